/- Contracts: neighbours, crossed, fits. -/
import Derived.Test.YtddcdopimpfhcaaBb
namespace Go.Proofs.Ytddcdopimpfhcaa
open Go.RowKit Go.Shelf

/-- Two corners are neighbours. -/
def nbB (n a b : Int) : Bool := decide (max (a - b) (b - a) = 1 ∨ max (a - b) (b - a) = n - 1)
def inB (a b x : Int) : Bool := decide (a < x ∧ x < b)
def onB (a b x : Int) : Bool := decide (x = a ∨ x = b)
/-- Two lines cross. -/
def crossB (p q : Int × Int) : Bool := !onB p.1 p.2 q.1 && !onB p.1 p.2 q.2 && (inB p.1 p.2 q.1 != inB p.1 p.2 q.2)

set_option maxHeartbeats 1000000 in
theorem neigh_any (n a b : Int) (hn : 3 ≤ n ∧ n ≤ 12) (ha : 0 ≤ a ∧ a < 12) (hb : 0 ≤ b ∧ b < 12) (v : Bool) (hv : nbB n a b = v) (w : World) :
    Calls Try.prog 75 #[.int .i64 n, .int .i64 a, .int .i64 b] w fun e w' => e = .returned (.bool v) ∧ w' = w := by
  obtain ⟨d, hd⟩ : ∃ d, d = max (a - b) (b - a) := ⟨_, rfl⟩
  have hd0 : 0 ≤ d ∧ d ≤ 12 := by omega
  unfold nbB at hv
  rw [← hd] at hv
  have h1 : IntKind.i64.wrap (a - b) = a - b := by rw [IntKind.wrap_i64]; omega
  have h2 : IntKind.i64.wrap (b - a) = b - a := by rw [IntKind.wrap_i64]; omega
  have h3 : IntKind.i64.wrap (n - 1) = n - 1 := by rw [IntKind.wrap_i64]; omega
  go_enter Try.func75, Try.ntmps75
  go_wp2
  all_goals
    go_ret
    refine ⟨ret_bool ?_, rfl⟩
    rw [← hv, Bool.eq_iff_iff]
    simp
    omega
set_option maxHeartbeats 1000000 in
theorem in_any (a b x : Int) (v : Bool) (hv : inB a b x = v) (P : Nat) (w : World) (hP : w.heap[P]? = some (.cells #[.int .i64 a, .int .i64 b] 36 (0, 0))) :
    Calls Try.prog 88 #[.int .i64 x, .pointer (some ⟨P, 0, none⟩)] w fun e w' => e = .returned (.bool v) ∧ w' = w := by
  obtain ⟨⟨c0, c1⟩, _, _⟩ := two_facts hP
  unfold inB at hv
  clear hP
  by_cases h1 : a < x
  · by_cases h2 : x < b
    · rw [decide_eq_true ⟨h1, h2⟩] at hv
      subst hv
      go_enter Try.func88, Try.ntmps88
      go_wp2
      go_ret
      exact ⟨rfl, rfl⟩
    · rw [decide_eq_false (fun e => h2 e.2)] at hv
      subst hv
      go_enter Try.func88, Try.ntmps88
      go_wp2
      go_ret
      exact ⟨rfl, rfl⟩
  · rw [decide_eq_false (fun e => h1 e.1)] at hv
    subst hv
    go_enter Try.func88, Try.ntmps88
    go_wp2
    go_ret
    exact ⟨rfl, rfl⟩
set_option maxHeartbeats 1000000 in
theorem on_any (a b x : Int) (v : Bool) (hv : onB a b x = v) (P : Nat) (w : World) (hP : w.heap[P]? = some (.cells #[.int .i64 a, .int .i64 b] 36 (0, 0))) :
    Calls Try.prog 89 #[.int .i64 x, .pointer (some ⟨P, 0, none⟩)] w fun e w' => e = .returned (.bool v) ∧ w' = w := by
  obtain ⟨⟨c0, c1⟩, _, _⟩ := two_facts hP
  unfold onB at hv
  clear hP
  by_cases h1 : x = a
  · rw [decide_eq_true (.inl h1)] at hv
    subst hv
    go_enter Try.func89, Try.ntmps89
    go_wp2
    go_ret
    exact ⟨rfl, rfl⟩
  · by_cases h2 : x = b
    · rw [decide_eq_true (.inr h2)] at hv
      subst hv
      go_enter Try.func89, Try.ntmps89
      go_wp2
      go_ret
      exact ⟨rfl, rfl⟩
    · rw [decide_eq_false (by rintro (e | e); exact h1 e; exact h2 e)] at hv
      subst hv
      go_enter Try.func89, Try.ntmps89
      go_wp2
      go_ret
      exact ⟨ret_bool (by simp [h1, h2]), rfl⟩
set_option maxHeartbeats 1000000 in
set_option maxRecDepth 100000 in
theorem cross_any (p0 p1 q0 q1 : Int) (v : Bool) (hv : crossB (p0, p1) (q0, q1) = v) (w : World) :
    Calls Try.prog 78 #[.agg #[.int .i64 p0, .int .i64 p1], .agg #[.int .i64 q0, .int .i64 q1]] w fun e w' => e = .returned (.bool v) ∧ Below w.heap.size w w' := by
  have HB : Off (∀ W : World, ∀ o, Below w.heap.size w W → Below w.heap.size w (W.alloc o)) := ⟨fun W o h => belowA h o⟩
  have hc8 : ∀ (args : Array Value) (w : World), (callFunc 88 args).run Try.prog w = .ok (.enter 88 args) w := enters_of Try.func88 (by kernel_rfl) rfl
  have hc9 : ∀ (args : Array Value) (w : World), (callFunc 89 args).run Try.prog w = .ok (.enter 89 args) w := enters_of Try.func89 (by kernel_rfl) rfl
  have hP := alloc_old (o' := .cells #[.int .i64 q0, .int .i64 q1] 36) (block_new w (.cells #[.int .i64 p0, .int .i64 p1] 36))
  have hQ := block_new (w.alloc (.cells #[.int .i64 p0, .int .i64 p1] 36)) (.cells #[.int .i64 q0, .int .i64 q1] 36)
  have hB2 := HB.out _ (.cells #[.int .i64 q0, .int .i64 q1] 36) (HB.out _ (.cells #[.int .i64 p0, .int .i64 p1] 36) (Below.refl _ _))
  unfold crossB at hv
  rw [World.size_alloc] at hQ
  obtain ⟨w2, hw2⟩ : ∃ w2, w2 = (w.alloc (.cells #[.int .i64 p0, .int .i64 p1] 36)).alloc (.cells #[.int .i64 q0, .int .i64 q1] 36) := ⟨_, rfl⟩
  rw [← hw2] at hP hQ hB2
  have COn := Off.mk (fun x v (h : onB p0 p1 x = v) (q : Nat) => on_any p0 p1 x v h w.heap.size (w2.drewN q) (blockB (below_drewN' (Below.refl _ _) q) hP))
  have CIn := Off.mk (fun x v (h : inB p0 p1 x = v) (q : Nat) => in_any p0 p1 x v h w.heap.size (w2.drewN q) (blockB (below_drewN' (Below.refl _ _) q) hP))
  obtain ⟨⟨c0, c1⟩, _, _⟩ := two_facts hQ
  obtain ⟨z, hz⟩ : ∃ z, z = w.heap.size := ⟨_, rfl⟩
  rw [← hz] at c0 c1 COn CIn
  clear hP hQ
  obtain ⟨o1, h1⟩ : ∃ o, onB p0 p1 q0 = o := ⟨_, rfl⟩
  obtain ⟨o2, h2⟩ : ∃ o, onB p0 p1 q1 = o := ⟨_, rfl⟩
  obtain ⟨i1, h3⟩ : ∃ o, inB p0 p1 q0 = o := ⟨_, rfl⟩
  obtain ⟨i2, h4⟩ : ∃ o, inB p0 p1 q1 = o := ⟨_, rfl⟩
  simp only [h1, h2, h3, h4] at hv
  cases o1
  · cases o2
    · simp only [Bool.not_false, Bool.true_and] at hv
      go_enter Try.func78, Try.ntmps78
      go_wp2
      rw [← hw2, ← hz]
      clear hw2 hz
      go_quiet ((first
        | (go_at_fn 89; exact Calls.quiet_of_same (COn.out _ _ (by assumption) _))
        | (go_at_fn 88; exact Calls.quiet_of_same (CIn.out _ _ (by assumption) _))))
      go_wp2
      go_ret
      exact ⟨ret_bool (by rw [← hv]; cases i1 <;> cases i2 <;> rfl), below_drewN' hB2 _⟩
    · simp only [Bool.not_false, Bool.not_true, Bool.and_false, Bool.false_and] at hv
      subst hv
      go_enter Try.func78, Try.ntmps78
      go_wp2
      rw [← hw2, ← hz]
      clear hw2 hz
      go_quiet ((first
        | (go_at_fn 89; exact Calls.quiet_of_same (COn.out _ _ (by assumption) _))
        | (go_at_fn 88; exact Calls.quiet_of_same (CIn.out _ _ (by assumption) _))))
      go_wp2
      go_ret
      exact ⟨rfl, below_drewN' hB2 _⟩
  · simp only [Bool.not_true, Bool.false_and] at hv
    subst hv
    go_enter Try.func78, Try.ntmps78
    go_wp2
    rw [← hw2, ← hz]
    clear hw2 hz
    go_quiet ((first
      | (go_at_fn 89; exact Calls.quiet_of_same (COn.out _ _ (by assumption) _))
      | (go_at_fn 88; exact Calls.quiet_of_same (CIn.out _ _ (by assumption) _))))
    go_wp2
    go_ret
    exact ⟨rfl, below_drewN' hB2 _⟩
/-- A line can be one of a brand beside others. -/
def fitsB (n : Int) (p : Int × Int) (others : List (Int × Int)) : Bool := decide (0 ≤ p.1 ∧ p.1 < p.2 ∧ p.2 < n) && !nbB n p.1 p.2 && !others.any fun q => decide (p = q) || crossB p q
end Go.Proofs.Ytddcdopimpfhcaa
