/- The walk of PensPens. -/
import Derived.Test.YtbpmiphipjkdlaaBo
import Derived.Test.YtbpmiphipjkdlaaBa
import Derived.Test.YtbpmiphipjkdlaaAk
namespace Go.Proofs.Ytbpmiphipjkdlaa
open Go.RowKit Go.Shelf

/-- A row of posts copied behind an empty row. -/
theorem wpList_copyP {w : World} {ops : Array Oper} {rest : List Oper} {o : Oper} {a : Act} {Q : Exit → Act → World → Prop} (hgd : o.guard = none) (s x : Operand)
    (ho : o.op = .call { callee := .builtin .append, args := #[s, x], argTypes := #[22, 22] }) (A : Option Addr) (l : List (Int × Int)) (c : Nat) (hl : PairsI w A l) (hlc : l.length ≤ c) (h60 : l.length ≤ 60) (hA : A = none → c = 0)
    (hs : a.eval s = .slice (some ⟨w.heap.size, 0, none⟩) 0 0) (hx : a.eval x = .slice A l.length c)
    (h : ∀ v' w', OwnQ 34 w' w.heap.size v' l → Below w.heap.size w w' → wpList Try.prog ops Q rest (a.put o.dst v') w') : wpList Try.prog ops Q (o :: rest) a (w.alloc (.cells #[] 34)) := by
  obtain ⟨i0, hi, hz0, hz1, hz2⟩ := info_parts info34
  have hB : Below w.heap.size w (w.alloc (.cells #[] 34)) := (Below.refl _ _).alloc (Nat.le_refl _) _
  have hsz := hB.size
  cases A with
  | none =>
    obtain rfl := hA rfl
    obtain rfl : l = [] := List.length_eq_zero_iff.1 (by omega)
    exact wpList_append_own_none hgd s x 22 ho w.heap.size 34 i0 2 Try.underlying22 hi _ 0 [] hs (empty_row w _ _ _ (Nat.le_refl _)) hx (h _ _ ⟨empty_row w _ _ _ (Nat.le_refl _)⟩ hB)
  | some ad =>
    refine wpList_append_own _ hgd s x 22 ho w.heap.size 34 i0 (.agg #[.int .i64 0, .int .i64 0]) 2 16 Try.underlying22 hi hz0 hz1 hz2 rfl (by decide) _ 0 [] hs (empty_row _ _ _ _ (Nat.le_refl _)) ad l.length c (pairCells l) hx (by rw [pairCells_len]) (fun j u hj => cellB hB (pairs_cells hl rfl j u hj)) (fun u hu => pairCells_one l u hu) (by unfold maxLen; omega) (by omega) hsz ?_
    intro v' w' hown hgrow _
    refine h v' w' ⟨by simpa using hown⟩ (hB.grown hgrow hsz (fun k e => ?_))
    simp only [Value.ownBlock, Option.some.injEq] at e
    omega
set_option maxRecDepth 100000 in
set_option maxHeartbeats 2000000 in
theorem pens_walk (xs : PtL) (A : Option Addr) (c : Nat) (w : World) (hx : xs.length ≤ 140737488351232 → PairsI w A xs) (hxc : xs.length ≤ c) (hA : A = none → c = 0) :
    Calls Try.prog 9 #[.slice A xs.length c] w fun e w' => e = .returned (.bool true) ∧ Below w.heap.size w w' := by
  by_cases hf : xs.length ≤ 60
  · have hx := hx (by omega)
    have CF := Off.mk (few_any xs A c true (decide_eq_true hf) w)
    obtain ⟨a, e1, hR1⟩ : ∃ a e : Int, (if readP xs = true then Value.tuple #[.int .i64 ((twiceP xs).natAbs : Nat), .int .i64 0] else .tuple #[.int .i64 0, .int .i64 2]) = .tuple #[.int .i64 a, .int .i64 e] := by
      split <;> exact ⟨_, _, rfl⟩
    obtain ⟨b, e2, hR2⟩ : ∃ (b : Bool) (e : Int), (if readP xs = true then Value.tuple #[.bool (convexP xs false), .int .i64 0] else .tuple #[.bool false, .int .i64 2]) = .tuple #[.bool b, .int .i64 e] := by
      split <;> exact ⟨_, _, rfl⟩
    obtain ⟨v, hv⟩ : ∃ v, readP xs = v := ⟨_, rfl⟩
    have CR := Off.mk (fun W (hb : Below w.heap.size w W) => isPenR_read xs A c W v hv (hx.below hb))
    have CB := Off.mk (fun W (hb : Below w.heap.size w W) => AreaR_any xs A c W (hx.below hb))
    have CD := Off.mk (fun W (hb : Below w.heap.size w W) => ConvexR_any xs A c W (hx.below hb))
    rw [hR1] at CB
    rw [hR2] at CD
    have HA := Off.mk (And.intro hR1 (And.intro hR2 (And.intro hv (And.intro hxc hA))))
    have HX := Off.mk hx
    have H60 := Off.mk hf
    clear hx hf hR1 hR2 hxc hA hv
    go_enter Try.func9, Try.ntmps9
    go_wp2_with fail
    refine CF.out.mono ?_
    rintro e w0 ⟨rfl, rfl⟩
    go_wp2_with (at_builtin; refine wpList_copyP rfl _ _ rfl A xs c HX.out HA.out.2.2.2.1 H60.out HA.out.2.2.2.2 rfl rfl ?_)
    intro v1 w1 hO1 B1
    obtain ⟨A1, c1, rfl, hI1, hc1, _⟩ := ownQ_pairs hO1 (by have := H60.out; omega)
    have HB1 := Off.mk B1
    have CI := Off.mk (fun W (hb : Below w0.heap.size w0 W) (hb1 : Below w1.heap.size w1 W) => isPen_any xs A1 c1 W v HA.out.2.2.1 (hI1.below hb1))
    have CA := Off.mk (fun W (hb1 : Below w1.heap.size w1 W) => Area_any xs A1 c1 W (hI1.below hb1))
    have CC := Off.mk (fun W (hb1 : Below w1.heap.size w1 W) => Convex_any xs A1 c1 W (hI1.below hb1))
    have CS := Off.mk (fun W (hb : Below w0.heap.size w0 W) (hb1 : Below w1.heap.size w1 W) => same_any xs xs A1 A c1 c true (decide_eq_true rfl) W (hI1.below hb1) (HX.out.below hb))
    rw [HA.out.1] at CA
    rw [HA.out.2.1] at CC
    have HR := Off.mk (Below.refl w1.heap.size w1)
    clear hO1 B1 hI1 hc1 HX HA H60
    go_wp2_with fail
    refine (CI.out _ HB1.out HR.out).mono ?_
    rintro e w2 ⟨rfl, hb2⟩
    have HB2 := Off.mk (belowC HB1.out hb2)
    have HR2 := Off.mk (belowC HR.out hb2)
    clear hb2
    go_wp2_with fail
    refine (CR.out _ HB2.out).mono ?_
    rintro e w3 ⟨rfl, hb3⟩
    have HB3 := Off.mk (belowC HB2.out hb3)
    have HR3 := Off.mk (belowC HR2.out hb3)
    clear hb3
    go_wp2_with fail
    refine (CA.out _ HR3.out).mono ?_
    rintro e w4 ⟨rfl, hb4⟩
    have HB4 := Off.mk (belowC HB3.out hb4)
    have HR4 := Off.mk (belowC HR3.out hb4)
    clear hb4
    go_wp2_with fail
    refine (CB.out _ HB4.out).mono ?_
    rintro e w5 ⟨rfl, hb5⟩
    have HB5 := Off.mk (belowC HB4.out hb5)
    have HR5 := Off.mk (belowC HR4.out hb5)
    clear hb5
    go_wp2_with fail
    refine (CC.out _ HR5.out).mono ?_
    rintro e w6 ⟨rfl, hb6⟩
    have HB6 := Off.mk (belowC HB5.out hb6)
    have HR6 := Off.mk (belowC HR5.out hb6)
    clear hb6
    go_wp2_with fail
    refine (CD.out _ HB6.out).mono ?_
    rintro e w7 ⟨rfl, hb7⟩
    have HB7 := Off.mk (belowC HB6.out hb7)
    have HR7 := Off.mk (belowC HR6.out hb7)
    clear hb7
    go_wp2_with fail
    refine (CS.out _ HB7.out HR7.out).mono ?_
    rintro e w8 ⟨rfl, hb8⟩
    have HB8 := Off.mk (belowC HB7.out hb8)
    clear hb8
    go_wp2_with fail
    refine (alive_any _).mono ?_
    rintro e w9 ⟨rfl, hb9⟩
    go_wp2
    go_ret
    exact ⟨rfl, belowC HB8.out hb9⟩
  · have CF := Off.mk (few_any xs A c false (decide_eq_false hf) w)
    clear hx hf
    go_enter Try.func9, Try.ntmps9
    go_wp2_with fail
    refine CF.out.mono ?_
    rintro e w0 ⟨rfl, rfl⟩
    go_wp2_with fail
    refine (alive_any _).mono ?_
    rintro e w3 ⟨rfl, hb3⟩
    go_wp2
    go_ret
    exact ⟨rfl, hb3⟩
end Go.Proofs.Ytbpmiphipjkdlaa
