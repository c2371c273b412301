/- Contracts: the specification's Count; the law BrandsCounts, its walk. -/
import Derived.Test.YtddcdopimpfhcaaBu
namespace Go.Proofs.Ytddcdopimpfhcaa
open Go.RowKit Go.Shelf

/-- The first i products of a list with itself, from its third number on, turned around. -/
def rconvTo (l : List Int) (m : Nat) : Nat → Int
  | 0 => 0
  | i + 1 => rconvTo l m i + l.getD (i + 2) 0 * l.getD (m + 1 - (i + 2)) 0
def manyTo : Nat → List Int
  | 0 => [0, 0, 1, 1]
  | k + 1 => manyTo k ++ [rconvTo (manyTo k) (k + 4) (k + 2)]
theorem manyTo_len : ∀ k, (manyTo k).length = k + 4
  | 0 => rfl
  | k + 1 => by rw [manyTo, List.length_append, manyTo_len]; rfl
theorem many_all : ∀ k : Fin 11, (∀ i : Fin 16, 0 ≤ (manyTo k.val).getD i.val 0 ∧ (manyTo k.val).getD i.val 0 ≤ 100000) ∧ ∀ i : Fin 16, 0 ≤ rconvTo (manyTo k.val) (k.val + 4) i.val ∧ rconvTo (manyTo k.val) (k.val + 4) i.val ≤ 1000000000 := by decide +kernel
def rcountI (n : Nat) : Int := (manyTo (n - 3)).getD n 0
theorem count_eq : ∀ n : Fin 13, 3 ≤ n.val → countI n.val = rcountI n.val := by decide +kernel
theorem rcount_no (n : Int) (h : n < 3 ∨ 12 < n) (w : World) : Calls Try.prog 24 #[.int .i64 n] w fun e w' => e = .returned (.tuple #[.int .i64 0, .int .i64 2]) ∧ w' = w := by
  by_cases h1 : n < 3
  · clear h
    go_enter Try.func24, Try.ntmps24
    go_wp2
    go_ret2
    exact ⟨rfl, rfl⟩
  · have h2 : 12 < n := by omega
    clear h
    go_enter Try.func24, Try.ntmps24
    go_wp2
    go_ret2
    exact ⟨rfl, rfl⟩
theorem own_four (w : World) (a b c d : Int) : Own (w.alloc (.cells #[.int .i64 a, .int .i64 b, .int .i64 c, .int .i64 d] 3)) w.heap.size (.slice (some ⟨w.heap.size, 0, none⟩) 4 4) [a, b, c, d] := by
  refine ⟨rfl, .inr ⟨w.heap.size, 4, #[.int .i64 a, .int .i64 b, .int .i64 c, .int .i64 d], rfl, Nat.le_refl _, ?_, Nat.le_refl _, by simp [maxLen], rfl, rfl⟩⟩
  change (w.heap.push (Obj.cells #[.int .i64 a, .int .i64 b, .int .i64 c, .int .i64 d] 3))[w.heap.size]? = _
  simp
set_option maxHeartbeats 4000000 in
theorem rcount_yes (n : Nat) (h3 : 3 ≤ n) (h12 : n ≤ 12) (w : World) : Calls Try.prog 24 #[.int .i64 (n : Int)] w fun e w' => e = .returned (.tuple #[.int .i64 (rcountI n), .int .i64 0]) ∧ Below w.heap.size w w' := by
  have HO1 := Off.mk (own_four w 0 0 1 1)
  have HB1 : Off (Below w.heap.size w (w.alloc (.cells #[.int .i64 0, .int .i64 0, .int .i64 1, .int .i64 1] 3))) := ⟨(Below.refl _ _).alloc (Nat.le_refl _) _⟩
  have HC : Off (rcountI n = (manyTo (n - 3)).getD n 0) := ⟨rfl⟩
  go_enter Try.func24, Try.ntmps24
  go_wp2
  go_loopw [4, 5] (fun v mv wr => ∃ (k m c : Nat) (A : Option Addr), k + 3 ≤ n ∧ Off (m = k + 4) ∧ mv = .int .i64 (m : Int) ∧ v = .slice A m c ∧ Off (Own wr w.heap.size v (manyTo k)) ∧ Off (Below w.heap.size w wr)) (fun _ mv _ => n + 1 - (intOf mv).toNat)
  case atStart => exact ⟨0, 4, 4, _, by omega, ⟨rfl⟩, rfl, rfl, HO1, HB1⟩
  case round =>
    clear HO1 HB1
    obtain ⟨k, m, c, A, hk, HM, rfl, rfl, HO, HB⟩ := hrel
    have hm4 : 4 ≤ m := by have := HM.out; omega
    have hm13 : m ≤ n + 1 := by have := HM.out; omega
    have HL : Off ((manyTo k).length = m) := ⟨by rw [manyTo_len, HM.out]⟩
    have HI : Off (IntsAt wr A (manyTo k)) := ⟨by
      obtain ⟨A', c', e, hi, _⟩ := own_ints HO.out (by rw [HL.out]; omega)
      rw [HL.out] at e
      cases e
      exact hi⟩
    have HA : Off ((∀ i, i ≤ 15 → 0 ≤ (manyTo k).getD i 0 ∧ (manyTo k).getD i 0 ≤ 100000) ∧ ∀ i, i ≤ 15 → 0 ≤ rconvTo (manyTo k) m i ∧ rconvTo (manyTo k) m i ≤ 1000000000) := ⟨by
      have := many_all ⟨k, by omega⟩
      simp only [← HM.out] at this
      exact ⟨fun i hi => this.1 ⟨i, by omega⟩, fun i hi => this.2 ⟨i, by omega⟩⟩⟩
    have HS : Off (manyTo (k + 1) = manyTo k ++ [rconvTo (manyTo k) m (k + 2)]) := ⟨by rw [HM.out]; rfl⟩
    by_cases hkn : m ≤ n
    · have hc1 : (m : Int) ≤ (n : Int) := by omega
      obtain ⟨l, hl⟩ : ∃ l, l = manyTo k := ⟨_, rfl⟩
      rw [← hl] at HO HL HI HA HS
      clear hl
      go_wp2
      go_loopw [6, 7] (fun sv iv wq => ∃ i q : Nat, i + 2 ≤ m ∧ Off (q = i + 2) ∧ iv = .int .i64 (q : Int) ∧ sv = .int .i64 (rconvTo l m i) ∧ Off (Own wq w.heap.size (.slice A m c) l) ∧ Off (IntsAt wq A l) ∧ Off (Below w.heap.size w wq)) (fun _ iv _ => m - (intOf iv).toNat)
      case atStart => exact ⟨0, 2, by omega, ⟨rfl⟩, rfl, rfl, HO, HI, HB⟩
      case round =>
        clear HO HI HB
        obtain ⟨i, q, hi, HQ, rfl, rfl, HO, HI, HB⟩ := hrel
        have hqm : q ≤ m := by have := HQ.out; omega
        by_cases hik : q < m
        · obtain ⟨ad, rfl, x0⟩ := HI.out.cell q (by rw [HL.out]; omega)
          obtain ⟨ad', e', y0⟩ := HI.out.cell (m + 1 - q) (by rw [HL.out]; have := HQ.out; omega)
          cases e'
          have HV : Off (rconvTo l m (i + 1) = rconvTo l m i + l.getD q 0 * l.getD (m + 1 - q) 0) := ⟨by rw [HQ.out]; rfl⟩
          have bx := HA.out.1 q (by omega)
          have byy := HA.out.1 (m + 1 - q) (by omega)
          have bs := HA.out.2 i (by omega)
          obtain ⟨x, hx⟩ : ∃ x, x = l.getD q 0 := ⟨_, rfl⟩
          obtain ⟨y, hy⟩ : ∃ y, y = l.getD (m + 1 - q) 0 := ⟨_, rfl⟩
          obtain ⟨s, hs⟩ : ∃ s, s = rconvTo l m i := ⟨_, rfl⟩
          rw [← hx] at x0 bx HV
          rw [← hy] at y0 byy HV
          rw [← hs] at bs HV ⊢
          obtain ⟨j, hj⟩ : ∃ j, j = m + 1 - q := ⟨_, rfl⟩
          rw [← hj] at y0
          have hxy : 0 ≤ x * y ∧ x * y ≤ 10000000000 := ⟨Int.mul_nonneg bx.1 byy.1, by
            have := Int.mul_le_mul bx.2 byy.2 byy.1 (by omega)
            omega⟩
          obtain ⟨p, hp⟩ : ∃ p, p = x * y := ⟨_, rfl⟩
          have w1 : IntKind.i64.wrap (x * y) = x * y := by rw [IntKind.wrap_i64]; omega
          have w2 : IntKind.i64.wrap (s + x * y) = s + x * y := by rw [IntKind.wrap_i64]; omega
          have w3 : IntKind.i64.wrap ((m : Int) + 1) = (m : Int) + 1 := by rw [IntKind.wrap_i64]; omega
          have w4 : IntKind.i64.wrap ((m : Int) + 1 - (q : Int)) = (j : Int) := by rw [IntKind.wrap_i64]; omega
          have i0 : (0 : Int) ≤ (q : Int) := by omega
          have i1 : (q : Int) < (m : Int) := by omega
          have j0 : (0 : Int) ≤ (j : Int) := by omega
          have j1 : (j : Int) < (m : Int) := by have := HQ.out; omega
          have HI1 : Off (i + 1 + 2 ≤ m ∧ q + 1 = i + 1 + 2) := ⟨by have := HQ.out; omega⟩
          clear hx hy hs hj hxy hp HS HA bx byy bs
          go_wp2
          go_quiet (fail)
          go_wp2
          go_roundw
          case rel => exact ⟨i + 1, q + 1, HI1.out.1, ⟨HI1.out.2⟩, by go_num, by rw [HV.out], ⟨own_below HO.out (below_drewN' (Below.refl _ _) _)⟩, ⟨HI.out.below (below_drewN' (Below.refl _ _) _)⟩, ⟨below_drewN' HB.out _⟩⟩
          case measure => simp only [intOf]; omega
        · obtain rfl : i = k + 2 := by have := HQ.out; have := HM.out; omega
          have hll : l.length ≤ 3000 := by rw [HL.out]; omega
          obtain ⟨s, hs⟩ : ∃ s, s = rconvTo l m (k + 2) := ⟨_, rfl⟩
          rw [← hs] at HS ⊢
          clear hs
          go_wp2_with (at_builtin; refine wpList_int rfl _ _ rfl w.heap.size _ l s HO.out HB.out.size hll rfl rfl ?_)
          intro v5 w5 hO5 _ hb5
          obtain ⟨A5, c5, e5, hi5, _⟩ := own_ints hO5 (by rw [List.length_append]; simp; omega)
          rw [List.length_append, HL.out] at e5
          have HO5 := Off.mk hO5
          have HB5 := Off.mk (HB.out.trans hb5)
          subst e5
          clear hO5 hb5 hi5
          go_wp2
          go_roundw
          case rel => exact ⟨k + 1, m + 1, c5, A5, by have := HM.out; omega, ⟨by rw [HM.out]⟩, by go_num, rfl, ⟨by rw [HS.out]; exact HO5.out⟩, HB5⟩
          case measure => simp only [intOf]; omega
    · have hkn2 : k = n - 3 := by have := HM.out; omega
      obtain ⟨ad, rfl, x0⟩ := HI.out.cell n (by rw [HL.out]; omega)
      have HC' : Off (rcountI n = (manyTo k).getD n 0) := ⟨by rw [HC.out, hkn2]⟩
      obtain ⟨x, hx⟩ : ∃ x, x = (manyTo k).getD n 0 := ⟨_, rfl⟩
      rw [← hx] at x0 HC'
      have hc1 : ¬ ((m : Int) ≤ (n : Int)) := by omega
      have hmk : (n : Int) < (m : Int) := by omega
      have hm0 : (0 : Int) ≤ (n : Int) := by omega
      clear hx hkn2 HC HS HA
      go_wp2
      go_ret2
      refine ⟨?_, HB.out⟩
      rw [HC'.out]
      rfl
set_option maxHeartbeats 1000000 in
theorem counts_walk (n : Int) (w : World) : Calls Try.prog 5 #[.int .i64 n] w fun e w' => e = .returned (.bool true) ∧ Below w.heap.size w w' := by
  by_cases h : n < 3 ∨ 12 < n
  · have C1 := Off.mk (count_no n h)
    have C2 := Off.mk (rcount_no n h)
    clear h
    go_enter Try.func5, Try.ntmps5
    go_wp2_with fail
    refine (C1.out _).mono ?_
    rintro e w1 ⟨rfl, hw⟩
    subst w1
    go_wp2_with fail
    refine (C2.out _).mono ?_
    rintro e w1 ⟨rfl, hw⟩
    subst w1
    go_wp2_with (go_at_call 17; refine (alive_any _).mono ?_; rintro e w2 ⟨rfl, hb2⟩)
    go_ret
    exact ⟨rfl, hb2⟩
  · obtain ⟨m, rfl⟩ : ∃ m : Nat, n = m := ⟨n.toNat, by omega⟩
    have C1 := Off.mk (fun W => count_yes m (by omega) (by omega) W)
    have C2 := Off.mk (fun W => rcount_yes m (by omega) (by omega) W)
    have he : countI m = rcountI m := count_eq ⟨m, by omega⟩ (by simp only; omega)
    rw [he] at C1
    obtain ⟨x, hx⟩ : ∃ x, x = rcountI m := ⟨_, rfl⟩
    rw [← hx] at C1 C2
    clear h he hx
    go_enter Try.func5, Try.ntmps5
    go_wp2_with fail
    refine (C1.out _).mono ?_
    rintro e w1 ⟨rfl, hb1⟩
    have HB1 := Off.mk hb1
    clear hb1
    go_wp2_with fail
    refine (C2.out _).mono ?_
    rintro e w2 ⟨rfl, hb2⟩
    have HB2 := Off.mk (belowC HB1.out hb2)
    clear hb2
    go_wp2_with (go_at_call 17; refine (alive_any _).mono ?_; rintro e w3 ⟨rfl, hb3⟩)
    go_ret
    exact ⟨rfl, belowC HB2.out hb3⟩
end Go.Proofs.Ytddcdopimpfhcaa
