/- The walk of PensHulls. -/
import Derived.Test.YtbpmiphipjkdlaaFj
import Derived.Test.YtbpmiphipjkdlaaBa
import Derived.Laws.AppendOwnNone
namespace Go.Proofs.Ytbpmiphipjkdlaa
open Go.RowKit Go.Shelf

theorem wpList_copyH {w : World} {ops : Array Oper} {rest : List Oper} {o : Oper} {a : Act} {Q : Exit → Act → World → Prop} (hgd : o.guard = none) (s x : Operand)
    (ho : o.op = .call { callee := .builtin .append, args := #[s, x], argTypes := #[22, 22] }) (A : Option Addr) (l : List (Int × Int)) (c : Nat) (hl : PairsI w A l) (hlc : l.length ≤ c) (h60 : l.length ≤ 60) (hA : A = none → c = 0)
    (hs : a.eval s = .slice (some ⟨w.heap.size, 0, none⟩) 0 0) (hx : a.eval x = .slice A l.length c)
    (h : ∀ v' w', OwnQ 34 w' w.heap.size v' l → Below w.heap.size w w' → wpList Try.prog ops Q rest (a.put o.dst v') w') : wpList Try.prog ops Q (o :: rest) a (w.alloc (.cells #[] 34)) := by
  obtain ⟨i0, hi, hz0, hz1, hz2⟩ := info_parts info34
  have hB : Below w.heap.size w (w.alloc (.cells #[] 34)) := (Below.refl _ _).alloc (Nat.le_refl _) _
  have hsz := hB.size
  cases A with
  | none =>
    obtain rfl := hA rfl
    obtain rfl : l = [] := List.length_eq_zero_iff.1 (by omega)
    exact wpList_append_own_none hgd s x 22 ho w.heap.size 34 i0 2 Try.underlying22 hi _ 0 [] hs (empty_row w _ _ _ (Nat.le_refl _)) hx (h _ _ ⟨empty_row w _ _ _ (Nat.le_refl _)⟩ hB)
  | some ad =>
    refine wpList_append_own _ hgd s x 22 ho w.heap.size 34 i0 (.agg #[.int .i64 0, .int .i64 0]) 2 16 Try.underlying22 hi hz0 hz1 hz2 rfl (by decide) _ 0 [] hs (empty_row _ _ _ _ (Nat.le_refl _)) ad l.length c (pairCells l) hx (by rw [pairCells_len]) (fun j u hj => cellB hB (pairs_cells hl rfl j u hj)) (fun u hu => pairCells_one l u hu) (by unfold maxLen; omega) (by omega) hsz ?_
    intro v' w' hown hgrow _
    refine h v' w' ⟨by simpa using hown⟩ (hB.grown hgrow hsz (fun k e => ?_))
    simp only [Value.ownBlock, Option.some.injEq] at e
    omega
theorem hullR_len (H : PtL) : (hullR H).1.length ≤ 10 := by
  unfold hullR
  split
  · simp
  · split
    · simp
    · simp only; omega
theorem hullIs_len {xs : PtL} {r : PtL × Int} (h : HullIs xs r) : r.1.length ≤ 10 := by
  rcases h with ⟨_, rfl⟩ | ⟨_, _, rfl⟩ | ⟨_, _, rfl⟩ | ⟨_, _, S, _, _, _, rfl⟩
  · simp
  · simp
  · simp
  · exact hullR_len _
set_option maxRecDepth 100000 in
set_option maxHeartbeats 2000000 in
theorem hulls_walk (xs : PtL) (A : Option Addr) (c : Nat) (w : World) (hx : xs.length ≤ 140737488351232 → PairsI w A xs) (hxc : xs.length ≤ c) (hA : A = none → c = 0) :
    Calls Try.prog 14 #[.slice A xs.length c] w fun e w' => e = .returned (.bool true) ∧ Below w.heap.size w w' := by
  by_cases hf : xs.length ≤ 60
  · have hx := hx (by omega)
    have CF := Off.mk (few_any xs A c true (decide_eq_true hf) w)
    have HA := Off.mk (And.intro hxc hA)
    have HX := Off.mk hx
    have H60 := Off.mk hf
    clear hx hf hxc hA
    go_enter Try.func14, Try.ntmps14
    go_wp2_with fail
    refine CF.out.mono ?_
    rintro e w0 ⟨rfl, rfl⟩
    go_wp2_with (at_builtin; refine wpList_copyH rfl _ _ rfl A xs c HX.out HA.out.1 H60.out HA.out.2 rfl rfl ?_)
    intro v1 w1 hO1 B1
    obtain ⟨A1, c1, rfl, hI1, hc1, _⟩ := ownQ_pairs hO1 (by have := H60.out; omega)
    have HB1 := Off.mk B1
    have HI1 := Off.mk hI1
    have CH := Off.mk (Hull_any xs A1 c1 w1 hI1)
    clear hO1 B1 hI1 hc1
    go_wp2_with fail
    refine CH.out.mono ?_
    rintro e w2 ⟨⟨r, hr, u2, rfl, hO2⟩, hb2⟩
    obtain ⟨ps, er⟩ := r
    have HR := Off.mk hr
    have hl := hullIs_len hr
    simp only at hl
    obtain ⟨A2, c2, rfl, hI2, _, _⟩ := ownQ_pairs hO2 (by simp only; omega)
    have HI2 := Off.mk hI2
    have HB2 := Off.mk (belowC HB1.out hb2)
    have HR2 := Off.mk hb2
    clear hO2 hb2 hI2 hr CH
    simp only at HI2
    go_wp2_with fail
    refine (HullR_any xs A c _ (HX.out.below HB2.out) (ps, er) HR.out).mono ?_
    rintro e w3 ⟨⟨u3, rfl, hO3⟩, hb3⟩
    obtain ⟨A3, c3, rfl, hI3, _, _⟩ := ownQ_pairs hO3 (by simp only; omega)
    have HI3 := Off.mk hI3
    have HB3 := Off.mk (belowC HB2.out hb3)
    have HR3 := Off.mk (belowC HR2.out hb3)
    have HI2b := Off.mk (HI2.out.below hb3)
    have CS1 := Off.mk (same_any ps ps A2 A3 c2 c3 true (decide_eq_true rfl) w3 HI2b.out HI3.out)
    clear hO3 hb3 hI3 HI2 HR hl
    go_wp2_with fail
    refine CS1.out.mono ?_
    rintro e w4 ⟨rfl, hb4⟩
    have HB4 := Off.mk (belowC HB3.out hb4)
    have HR4 := Off.mk (belowC HR3.out hb4)
    have CS2 := Off.mk (same_any xs xs A1 A c1 c true (decide_eq_true rfl) w4 (HI1.out.below HR4.out) (HX.out.below HB4.out))
    clear hb4
    go_wp2_with fail
    refine CS2.out.mono ?_
    rintro e w5 ⟨rfl, hb5⟩
    have HB5 := Off.mk (belowC HB4.out hb5)
    clear hb5
    go_wp2_with fail
    refine (alive_any _).mono ?_
    rintro e w6 ⟨rfl, hb6⟩
    go_wp2
    go_ret
    exact ⟨rfl, belowC HB5.out hb6⟩
  · have CF := Off.mk (few_any xs A c false (decide_eq_false hf) w)
    clear hx hf
    go_enter Try.func14, Try.ntmps14
    go_wp2_with fail
    refine CF.out.mono ?_
    rintro e w0 ⟨rfl, rfl⟩
    go_wp2_with fail
    refine (alive_any _).mono ?_
    rintro e w3 ⟨rfl, hb3⟩
    go_wp2
    go_ret
    exact ⟨rfl, hb3⟩
end Go.Proofs.Ytbpmiphipjkdlaa
