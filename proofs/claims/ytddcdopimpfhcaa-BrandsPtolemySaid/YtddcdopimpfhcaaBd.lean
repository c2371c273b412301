/- Contracts: equality of pairs; fits. -/
import Derived.Test.YtddcdopimpfhcaaBc
import Derived.Laws.StructEq
namespace Go.Proofs.Ytddcdopimpfhcaa
open Go.RowKit Go.Shelf

theorem eq_pair (x y z t : Int) (w : World) : Sem.run Try.prog (Op.equalIn 10000 36 (.agg #[.int .i64 x, .int .i64 y]) (.agg #[.int .i64 z, .int .i64 t])) w = .ok (decide (x = z) && decide (y = t)) w := by
  have h1 := Try.underlying36
  have h2 := Try.underlying3
  by_cases e1 : x = z
  · subst e1
    by_cases e2 : y = t
    · subst e2
      go_simp
    · go_simp
  · go_simp
set_option maxHeartbeats 1000000 in
set_option maxRecDepth 100000 in
theorem fits1_any (p0 p1 q0 q1 : Int) (v : Bool) (hv : (decide ((p0, p1) = (q0, q1)) || crossB (p0, p1) (q0, q1)) = v) (P : Nat) (w : World) (hP : w.heap[P]? = some (.cells #[.int .i64 p0, .int .i64 p1] 36 (0, 0))) :
    Calls Try.prog 77 #[.agg #[.int .i64 q0, .int .i64 q1], .pointer (some ⟨P, 0, none⟩)] w fun e w' => e = .returned (.bool v) ∧ Below w.heap.size w w' := by
  obtain ⟨⟨c0, c1⟩, _, _⟩ := two_facts hP
  have HB : Off (∀ o, Below w.heap.size w (w.alloc o)) := ⟨fun o => (Below.refl _ _).alloc (Nat.le_refl _) _⟩
  have CC := Off.mk (fun v (h : crossB (p0, p1) (q0, q1) = v) W => cross_any p0 p1 q0 q1 v h W)
  have HP : P < w.heap.size := (Array.getElem?_eq_some_iff.1 hP).1
  clear hP
  by_cases e0 : p0 = q0
  · subst e0
    by_cases e1 : p1 = q1
    · subst e1
      rw [decide_eq_true rfl, Bool.true_or] at hv
      subst hv
      go_enter Try.func77, Try.ntmps77
      go_wp2
      go_ret
      exact ⟨rfl, HB.out _⟩
    · rw [decide_eq_false (fun e => e1 (Prod.mk.inj e).2), Bool.false_or] at hv
      go_enter Try.func77, Try.ntmps77
      go_wp2_with (go_at_call 78; refine (CC.out _ hv _).mono ?_; rintro e w1 ⟨rfl, hb1⟩)
      go_ret
      exact ⟨rfl, belowC (HB.out _) hb1⟩
  · rw [decide_eq_false (fun e => e0 (Prod.mk.inj e).1), Bool.false_or] at hv
    go_enter Try.func77, Try.ntmps77
    go_wp2_with (go_at_call 78; refine (CC.out _ hv _).mono ?_; rintro e w1 ⟨rfl, hb1⟩)
    go_ret
    exact ⟨rfl, belowC (HB.out _) hb1⟩
end Go.Proofs.Ytddcdopimpfhcaa
