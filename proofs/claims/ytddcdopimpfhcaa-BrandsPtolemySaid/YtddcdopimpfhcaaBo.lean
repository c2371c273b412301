/- Contracts: Count; a number more in a list; copies of lists. -/
import Derived.Test.YtddcdopimpfhcaaBn
import Derived.Laws.AppendOwnNone
namespace Go.Proofs.Ytddcdopimpfhcaa
open Go.RowKit Go.Shelf

/-- A number more in a list of numbers. -/
theorem wpList_int {w : World} {ops : Array Oper} {rest : List Oper} {o : Oper} {a : Act} {Q : Exit → Act → World → Prop} (hgd : o.guard = none) (s x : Operand)
    (ho : o.op = .call { callee := .builtin .append, args := #[s, x], argTypes := #[45, 45] }) (base : Nat) (v : Value) (xs : List Int) (i : Int) (hO : Own w base v xs) (hb : base ≤ w.heap.size) (h100 : xs.length ≤ 3000)
    (hs : a.eval s = v) (hx : a.eval x = .slice (some ⟨w.heap.size, 0, none⟩) 1 1)
    (h : ∀ v' w', Own w' base v' (xs ++ [i]) → w.grownBy w' v.ownBlock → Below base w w' → wpList Try.prog ops Q rest (a.put o.dst v') w') :
    wpList Try.prog ops Q (o :: rest) a (w.alloc (.cells #[.int .i64 i] 3)) := by
  obtain ⟨j0, hj, hy0, hy1, hy2⟩ := info_parts info3
  refine wpList_plain hgd fun K hK => ?_
  have c1 : ∀ q u, ([.int .i64 i] : List Value)[q]? = some u → (w.alloc (.cells #[.int .i64 i] 3)).cell? ((⟨w.heap.size, 0, none⟩ : Addr).add q) = some u := by
    intro q u hk
    match q, hk with
    | 0, hk => simp at hk; subst hk; simp [Addr.add_lit]
  have c2 : ∀ u ∈ ([.int .i64 i] : List Value), u.oneCell' = true := by intro u hu; simp at hu; rcases hu with rfl; rfl
  obtain ⟨v', w', hr, h2, h3, h4⟩ := run_append_own (P := Try.prog) _ base 45 o.type 3 j0 _ 1 8 Try.underlying45 hj hy0 hy1 hy2 rfl (by decide) v xs.length _ (hO.out.alloc _) ⟨w.heap.size, 0, none⟩ 1 1 _ rfl c1 c2 (by unfold maxLen; omega) (by omega) (by simp; omega)
  have hA : w.grownBy (w.alloc (.cells #[.int .i64 i] 3)) v.ownBlock := ⟨rfl, rfl, rfl, by simp, fun k hk _ => Below.heap_alloc w _ k hk⟩
  have hG : w.grownBy w' v.ownBlock := ⟨h3.os.trans hA.os, h3.tape.trans hA.tape, h3.output.trans hA.output, Nat.le_trans hA.size h3.size, fun k hk hne => (h3.block k (Nat.lt_of_lt_of_le hk hA.size) hne).trans (hA.block k hk hne)⟩
  have hB : Below base w w' := ((Below.refl _ _).alloc hb _).grown h3 (by simp; omega) (fun k e => own_base hO e)
  unfold Oper.wp execOp
  simp only [ho, resolve, invoke, builtin, Sem.run_bind, Sem.run_pure, Result.andThen_ok, List.map_toArray, List.map_cons, List.map_nil, hs, hx, hr]
  refine hK _ _ (h v' w' ⟨by rw [List.length_append]; simpa [nums] using h2⟩ hG hB)
theorem own_nil (w : World) (base : Nat) : Own w base (.slice none 0 0) [] := ⟨World.ownsRow_nil _ _ _ _⟩

/-- The first i products of a list with itself, turned around. -/
def convTo (l : List Int) : Nat → Int
  | 0 => 0
  | i + 1 => convTo l i + l.getD i 0 * l.getD (l.length - 1 - i) 0
def catTo : Nat → List Int
  | 0 => [1]
  | k + 1 => catTo k ++ [convTo (catTo k) (catTo k).length]
theorem catTo_len : ∀ k, (catTo k).length = k + 1
  | 0 => rfl
  | k + 1 => by rw [catTo, List.length_append, catTo_len]; rfl
theorem cat_all : ∀ k : Fin 12, (∀ i : Fin 13, 0 ≤ (catTo k.val).getD i.val 0 ∧ (catTo k.val).getD i.val 0 ≤ 100000) ∧ ∀ i : Fin 13, 0 ≤ convTo (catTo k.val) i.val ∧ convTo (catTo k.val) i.val ≤ 1000000000 := by decide +kernel
/-- The number of brands. -/
def countI (n : Nat) : Int := (catTo (n - 2)).getD (n - 2) 0
theorem own_one (w : World) (i : Int) : Own (w.alloc (.cells #[.int .i64 i] 3)) w.heap.size (.slice (some ⟨w.heap.size, 0, none⟩) 1 1) [i] := by
  refine ⟨rfl, .inr ⟨w.heap.size, 1, #[.int .i64 i], rfl, Nat.le_refl _, ?_, Nat.le_refl _, by simp [maxLen], rfl, rfl⟩⟩
  change (w.heap.push (Obj.cells #[.int .i64 i] 3))[w.heap.size]? = _
  simp
theorem count_no (n : Int) (h : n < 3 ∨ 12 < n) (w : World) : Calls Try.prog 23 #[.int .i64 n] w fun e w' => e = .returned (.tuple #[.int .i64 0, .int .i64 2]) ∧ w' = w := by
  by_cases h1 : n < 3
  · clear h
    go_enter Try.func23, Try.ntmps23
    go_wp2
    go_ret2
    exact ⟨rfl, rfl⟩
  · have h2 : 12 < n := by omega
    clear h
    go_enter Try.func23, Try.ntmps23
    go_wp2
    go_ret2
    exact ⟨rfl, rfl⟩
set_option maxHeartbeats 4000000 in
theorem count_yes (n : Nat) (h3 : 3 ≤ n) (h12 : n ≤ 12) (w : World) : Calls Try.prog 23 #[.int .i64 (n : Int)] w fun e w' => e = .returned (.tuple #[.int .i64 (countI n), .int .i64 0]) ∧ Below w.heap.size w w' := by
  have HO1 := Off.mk (own_one w 1)
  have HB1 : Off (Below w.heap.size w (w.alloc (.cells #[.int .i64 1] 3))) := ⟨(Below.refl _ _).alloc (Nat.le_refl _) _⟩
  have HC : Off (countI n = (catTo (n - 2)).getD (n - 2) 0) := ⟨rfl⟩
  go_enter Try.func23, Try.ntmps23
  go_wp2
  go_loopw [4] (fun v wr => ∃ (k c : Nat) (A : Option Addr), k + 2 ≤ n ∧ v = .slice A (k + 1) c ∧ Off (Own wr w.heap.size v (catTo k)) ∧ Off (Below w.heap.size w wr)) (fun v _ => match v with | .slice _ m _ => n - m | _ => 0)
  case atStart => exact ⟨0, 1, _, by omega, rfl, HO1, HB1⟩
  case round =>
    clear HO1 HB1
    obtain ⟨k, c, A, hk, rfl, HO, HB⟩ := hrel
    have HL := Off.mk (catTo_len k)
    have HI : Off (IntsAt wr A (catTo k)) := ⟨by
      obtain ⟨A', c', e, hi, _⟩ := own_ints HO.out (by rw [catTo_len]; omega)
      rw [catTo_len] at e
      cases e
      exact hi⟩
    have HA : Off ((∀ i, i ≤ 12 → 0 ≤ (catTo k).getD i 0 ∧ (catTo k).getD i 0 ≤ 100000) ∧ ∀ i, i ≤ 12 → 0 ≤ convTo (catTo k) i ∧ convTo (catTo k) i ≤ 1000000000) := ⟨by
      have := cat_all ⟨k, by omega⟩
      exact ⟨fun i hi => this.1 ⟨i, by omega⟩, fun i hi => this.2 ⟨i, by omega⟩⟩⟩
    have HS : Off (catTo (k + 1) = catTo k ++ [convTo (catTo k) (catTo k).length]) := ⟨rfl⟩
    have hw1 : IntKind.i64.wrap ((n : Int) - 1) = (n : Int) - 1 := by rw [IntKind.wrap_i64]; omega
    by_cases hkn : k + 1 < n - 1
    · have hc1 : (k : Int) + 1 < (n : Int) - 1 := by omega
      obtain ⟨l, hl⟩ : ∃ l, l = catTo k := ⟨_, rfl⟩
      rw [← hl] at HO HL HI HA HS
      clear hl
      go_wp2
      go_loopw [5, 21] (fun sv iv wq => ∃ i : Nat, i ≤ k + 1 ∧ iv = .int .i64 i ∧ sv = .int .i64 (convTo l i) ∧ Off (Own wq w.heap.size (.slice A (k + 1) c) l) ∧ Off (IntsAt wq A l) ∧ Off (Below w.heap.size w wq)) (fun _ iv _ => k + 1 - (intOf iv).toNat)
      case atStart => exact ⟨0, by omega, rfl, rfl, HO, HI, HB⟩
      case round =>
        clear HO HI HB
        obtain ⟨i, hi, rfl, rfl, HO, HI, HB⟩ := hrel
        by_cases hik : i < k + 1
        · obtain ⟨ad, rfl, x0⟩ := HI.out.cell i (by rw [HL.out]; omega)
          obtain ⟨ad', e', y0⟩ := HI.out.cell (k - i) (by rw [HL.out]; omega)
          cases e'
          have HV : Off (convTo l (i + 1) = convTo l i + l.getD i 0 * l.getD (k - i) 0) := ⟨by rw [convTo, HL.out, show k + 1 - 1 - i = k - i by omega]⟩
          have bx := HA.out.1 i (by omega)
          have byy := HA.out.1 (k - i) (by omega)
          have bs := HA.out.2 i (by omega)
          obtain ⟨x, hx⟩ : ∃ x, x = l.getD i 0 := ⟨_, rfl⟩
          obtain ⟨y, hy⟩ : ∃ y, y = l.getD (k - i) 0 := ⟨_, rfl⟩
          obtain ⟨s, hs⟩ : ∃ s, s = convTo l i := ⟨_, rfl⟩
          rw [← hx] at x0 bx HV
          rw [← hy] at y0 byy HV
          rw [← hs] at bs HV ⊢
          obtain ⟨j, hj⟩ : ∃ j, j = k - i := ⟨_, rfl⟩
          rw [← hj] at y0
          have hxy : 0 ≤ x * y ∧ x * y ≤ 10000000000 := ⟨Int.mul_nonneg bx.1 byy.1, by
            have := Int.mul_le_mul bx.2 byy.2 byy.1 (by omega)
            omega⟩
          obtain ⟨p, hp⟩ : ∃ p, p = x * y := ⟨_, rfl⟩
          have w1 : IntKind.i64.wrap (x * y) = x * y := by rw [IntKind.wrap_i64]; omega
          have w2 : IntKind.i64.wrap (s + x * y) = s + x * y := by rw [IntKind.wrap_i64]; omega
          have w3 : IntKind.i64.wrap ((k : Int) + 1 - 1) = (k : Int) := by rw [IntKind.wrap_i64]; omega
          have w5 : IntKind.i64.wrap (k : Int) = (k : Int) := by rw [IntKind.wrap_i64]; omega
          have w4 : IntKind.i64.wrap ((k : Int) - (i : Int)) = (j : Int) := by rw [IntKind.wrap_i64]; omega
          have i0 : (0 : Int) ≤ (i : Int) := by omega
          have i1 : (i : Int) < (k : Int) + 1 := by omega
          have j0 : (0 : Int) ≤ (j : Int) := by omega
          have j1 : (j : Int) < (k : Int) + 1 := by omega
          clear hx hy hs hj hxy hp HS HA bx byy bs
          go_wp2
          go_quiet (fail)
          go_wp2
          go_roundw
          case rel => exact ⟨i + 1, by omega, by go_num, by rw [HV.out], ⟨own_below HO.out (below_drewN' (Below.refl _ _) _)⟩, ⟨HI.out.below (below_drewN' (Below.refl _ _) _)⟩, ⟨below_drewN' HB.out _⟩⟩
          case measure => simp only [intOf]; omega
        · obtain rfl : i = k + 1 := by omega
          have HS' : Off (catTo (k + 1) = l ++ [convTo l (k + 1)]) := ⟨by rw [HS.out, HL.out]⟩
          have hll : l.length ≤ 3000 := by rw [HL.out]; omega
          obtain ⟨s, hs⟩ : ∃ s, s = convTo l (k + 1) := ⟨_, rfl⟩
          rw [← hs] at HS' ⊢
          clear hs HS
          go_wp2_with (at_builtin; refine wpList_int rfl _ _ rfl w.heap.size _ l s HO.out HB.out.size hll rfl rfl ?_)
          intro v5 w5 hO5 _ hb5
          obtain ⟨A5, c5, e5, hi5, _⟩ := own_ints hO5 (by rw [List.length_append]; simp; omega)
          rw [List.length_append, HL.out] at e5
          have HO5 := Off.mk hO5
          have HB5 := Off.mk (HB.out.trans hb5)
          subst e5
          clear hO5 hb5 hi5
          go_wp2
          go_roundw
          case rel => exact ⟨k + 1, c5, A5, by omega, rfl, ⟨by rw [HS'.out]; exact HO5.out⟩, HB5⟩
          case measure => simp; omega
    · have hkn2 : k = n - 2 := by omega
      obtain ⟨ad, rfl, x0⟩ := HI.out.cell (n - 2) (by rw [HL.out]; omega)
      have HC' : Off (countI n = (catTo k).getD (n - 2) 0) := ⟨by rw [HC.out, hkn2]⟩
      obtain ⟨x, hx⟩ : ∃ x, x = (catTo k).getD (n - 2) 0 := ⟨_, rfl⟩
      rw [← hx] at x0 HC'
      have hc1 : ¬ ((k : Int) + 1 < (n : Int) - 1) := by omega
      obtain ⟨m, hm⟩ : ∃ m, m = n - 2 := ⟨_, rfl⟩
      rw [← hm] at x0
      have w4 : IntKind.i64.wrap ((n : Int) - 2) = (m : Int) := by rw [IntKind.wrap_i64]; omega
      have hmk : (m : Int) < (k : Int) + 1 := by omega
      have hm0 : (0 : Int) ≤ (m : Int) := by omega
      clear hx hkn2 hm HC HS HA
      go_wp2
      go_ret2
      refine ⟨?_, HB.out⟩
      rw [HC'.out]
      rfl
end Go.Proofs.Ytddcdopimpfhcaa
