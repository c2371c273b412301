/- Contracts: fits, order. -/
import Derived.Test.YtddcdopimpfhcaaBe
namespace Go.Proofs.Ytddcdopimpfhcaa
open Go.RowKit Go.Shelf

theorem fits_any_eq (n : Int) (p : Int × Int) (xs : List (Int × Int)) : fitsB n p xs = (decide (0 ≤ p.1 ∧ p.1 < p.2 ∧ p.2 < n) && !nbB n p.1 p.2 && !xs.any (hitB p)) := rfl
set_option maxHeartbeats 2000000 in
set_option maxRecDepth 100000 in
theorem fits_any (n p0 p1 : Int) (xs : List (Int × Int)) (A : Option Addr) (c : Nat) (v : Bool) (hv : fitsB n (p0, p1) xs = v) (hn : 3 ≤ n ∧ n ≤ 12) (w : World) (hx : PairsI w A xs) :
    Calls Try.prog 55 #[.int .i64 n, .agg #[.int .i64 p0, .int .i64 p1], .slice A xs.length c] w fun e w' => e = .returned (.bool v) ∧ Below w.heap.size w w' := by
  have hP := block_new w (.cells #[.int .i64 p0, .int .i64 p1] 36)
  have hB : Below w.heap.size w (w.alloc (.cells #[.int .i64 p0, .int .i64 p1] 36)) := (Below.refl _ _).alloc (Nat.le_refl _) _
  have CC := Off.mk (fun v hv => contains_fits p0 p1 xs A c w.heap.size v hv _ (hx.below hB) hP)
  have HBB := Off.mk hB
  rw [fits_any_eq] at hv
  clear hx hP hB
  by_cases h : 0 ≤ p0 ∧ p0 < p1 ∧ p1 < n
  · rw [decide_eq_true h, Bool.true_and] at hv
    obtain ⟨h1, h2, h3⟩ := h
    have CN := Off.mk (fun v hv => neigh_any n p0 p1 hn (by omega) (by omega) v hv (w.alloc (.cells #[.int .i64 p0, .int .i64 p1] 36)))
    obtain ⟨b1, hb1⟩ : ∃ b, nbB n p0 p1 = b := ⟨_, rfl⟩
    obtain ⟨b2, hb2⟩ : ∃ b, xs.any (hitB (p0, p1)) = b := ⟨_, rfl⟩
    simp only [hb1, hb2] at hv
    have CN' := Off.mk (CN.out _ hb1)
    have CC' := Off.mk (CC.out _ hb2)
    clear CN CC hb1 hb2
    cases b1
    · simp only [Bool.not_false, Bool.true_and] at hv
      subst hv
      go_enter Try.func55, Try.ntmps55
      go_wp2_with (first
        | (go_at_call 75; refine CN'.out.mono ?_; rintro e w1 ⟨rfl, hw⟩; subst w1)
        | (go_at_call 76; refine CC'.out.mono ?_; rintro e w2 ⟨rfl, hb⟩))
      go_ret
      exact ⟨rfl, belowC HBB.out hb⟩
    · simp only [Bool.not_true, Bool.false_and] at hv
      subst hv
      go_enter Try.func55, Try.ntmps55
      go_wp2_with (go_at_call 75; refine CN'.out.mono ?_; rintro e w1 ⟨rfl, hw⟩; subst w1)
      go_ret
      exact ⟨rfl, HBB.out⟩
  · have h' : decide (0 ≤ p0 ∧ p0 < p1 ∧ p1 < n) = false := decide_eq_false h
    rw [h', Bool.false_and, Bool.false_and] at hv
    subst hv
    clear h' CC
    by_cases h1 : 0 ≤ p0
    · by_cases h2 : p0 < p1
      · have h3 : ¬ p1 < n := fun e => h ⟨h1, h2, e⟩
        clear h
        go_enter Try.func55, Try.ntmps55
        go_wp2
        go_ret
        exact ⟨rfl, HBB.out⟩
      · clear h
        go_enter Try.func55, Try.ntmps55
        go_wp2
        go_ret
        exact ⟨rfl, HBB.out⟩
    · clear h
      go_enter Try.func55, Try.ntmps55
      go_wp2
      go_ret
      exact ⟨rfl, HBB.out⟩
def orderI (p : Int × Int) : Int := p.1 * 12 + p.2
theorem order_any (p0 p1 : Int) (h0 : 0 ≤ p0 ∧ p0 < 12) (h1 : 0 ≤ p1 ∧ p1 < 12) (w : World) :
    Calls Try.prog 57 #[.agg #[.int .i64 p0, .int .i64 p1]] w fun e w' => e = .returned (.int .i64 (orderI (p0, p1))) ∧ Below w.heap.size w w' := by
  have e1 : IntKind.i64.wrap (p0 * 12) = p0 * 12 := by rw [IntKind.wrap_i64]; omega
  have e2 : IntKind.i64.wrap (p0 * 12 + p1) = p0 * 12 + p1 := by rw [IntKind.wrap_i64]; omega
  go_enter Try.func57, Try.ntmps57
  go_wp2
  go_ret
  exact ⟨rfl, (Below.refl _ _).alloc (Nat.le_refl _) _⟩
end Go.Proofs.Ytddcdopimpfhcaa
