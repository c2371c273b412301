/- Contracts: far, minus, cross, dot, sign. -/
import Derived.Test.YtbpmiphipjkdlaaAb
namespace Go.Proofs.Ytbpmiphipjkdlaa
open Go.RowKit Go.Shelf

/-- A point's value. -/
abbrev ptV (p : Int × Int) : Value := .agg #[.int .i64 p.1, .int .i64 p.2]
/-- Both numbers of a point are at most b. -/
def inB (b : Int) (p : Int × Int) : Prop := (-b ≤ p.1 ∧ p.1 ≤ b) ∧ -b ≤ p.2 ∧ p.2 ≤ b
def subP (p q : Int × Int) : Int × Int := (p.1 - q.1, p.2 - q.2)
def crossP (a b : Int × Int) : Int := a.1 * b.2 - a.2 * b.1
def dotP (a b : Int × Int) : Int := a.1 * b.1 + a.2 * b.2
def turnP (p q r : Int × Int) : Int := crossP (subP q p) (subP r q)
def farB (x : Int) : Bool := decide (x < -50 ∨ 50 < x)
theorem mul_in {x y a b : Int} (hx : -a ≤ x ∧ x ≤ a) (hy : -b ≤ y ∧ y ≤ b) (ha : 0 ≤ a) (hb : 0 ≤ b) : -(a * b) ≤ x * y ∧ x * y ≤ a * b := by
  have h1 : x * y ≤ a * b ∨ True := .inr trivial
  rcases Int.le_total 0 x with h0 | h0 <;> rcases Int.le_total 0 y with h2 | h2
  · have := Int.mul_le_mul hx.2 hy.2 h2 ha
    have := Int.mul_nonneg h0 h2
    have := Int.mul_nonneg ha hb
    omega
  · have e1 := Int.mul_le_mul hx.2 (show -y ≤ b by omega) (by omega : 0 ≤ -y) ha
    have e2 := Int.mul_nonneg h0 (show 0 ≤ -y by omega)
    have := Int.mul_nonneg ha hb
    rw [Int.mul_neg] at e1 e2
    omega
  · have e1 := Int.mul_le_mul (show -x ≤ a by omega) hy.2 h2 ha
    have e2 := Int.mul_nonneg (show 0 ≤ -x by omega) h2
    have := Int.mul_nonneg ha hb
    rw [Int.neg_mul] at e1 e2
    omega
  · have e1 := Int.mul_le_mul (show -x ≤ a by omega) (show -y ≤ b by omega) (by omega : 0 ≤ -y) ha
    have e2 := Int.mul_nonneg (show 0 ≤ -x by omega) (show 0 ≤ -y by omega)
    have := Int.mul_nonneg ha hb
    rw [Int.neg_mul_neg] at e1 e2
    omega
theorem far_any (x : Int) (v : Bool) (hv : farB x = v) (w : World) : Calls Try.prog 62 #[.int .i64 x] w fun e w' => e = .returned (.bool v) ∧ w' = w := by
  unfold farB at hv
  by_cases h1 : x < -50
  · obtain rfl : v = true := by rw [← hv, decide_eq_true_iff]; exact .inl h1
    clear hv
    go_enter Try.func62, Try.ntmps62
    go_wp2
    go_ret
    exact ⟨rfl, rfl⟩
  · have hf : decide (x < -50) = false := by rw [decide_eq_false_iff_not]; exact h1
    have hg : decide (50 < x) = v := by
      rw [← hv, Bool.eq_iff_iff, decide_eq_true_iff, decide_eq_true_iff]
      omega
    clear hv h1
    go_enter Try.func62, Try.ntmps62
    go_wp2
    go_ret
    exact ⟨rfl, rfl⟩
theorem minus_any (p q : Int × Int) (hp : inB 4194304 p) (hq : inB 4194304 q) (w : World) : Calls Try.prog 84 #[ptV p, ptV q] w fun e w' => e = .returned (ptV (subP p q)) ∧ Below w.heap.size w w' := by
  obtain ⟨x, y⟩ := p
  obtain ⟨z, t⟩ := q
  unfold inB at hp hq
  simp only at hp hq
  have w1 : IntKind.i64.wrap (x - z) = x - z := by rw [IntKind.wrap_i64]; omega
  have w2 : IntKind.i64.wrap (y - t) = y - t := by rw [IntKind.wrap_i64]; omega
  go_enter Try.func84, Try.ntmps84
  go_wp2
  refine bodyPost_ret (v := ptV (x - z, y - t)) (by simp [results, Try.results84, go_sem]) rfl ⟨rfl, ?_⟩
  exact belowA (belowA (belowA (Below.refl _ _) _) _) _
theorem cross_any (p q : Int × Int) (hp : inB 16777216 p) (hq : inB 16777216 q) (w : World) : Calls Try.prog 57 #[ptV p, ptV q] w fun e w' => e = .returned (.int .i64 (crossP p q)) ∧ Below w.heap.size w w' := by
  obtain ⟨x, y⟩ := p
  obtain ⟨z, t⟩ := q
  unfold inB at hp hq
  simp only at hp hq
  have m1 := mul_in hp.1 hq.2 (by omega) (by omega)
  have m2 := mul_in hp.2 hq.1 (by omega) (by omega)
  have w1 : IntKind.i64.wrap (x * t) = x * t := by rw [IntKind.wrap_i64]; omega
  have w2 : IntKind.i64.wrap (y * z) = y * z := by rw [IntKind.wrap_i64]; omega
  have w3 : IntKind.i64.wrap (x * t - y * z) = x * t - y * z := by rw [IntKind.wrap_i64]; omega
  clear m1 m2 hp hq
  go_enter Try.func57, Try.ntmps57
  go_wp2
  go_ret
  exact ⟨rfl, belowA (belowA (Below.refl _ _) _) _⟩
theorem dot_any (p q : Int × Int) (hp : inB 16777216 p) (hq : inB 16777216 q) (w : World) : Calls Try.prog 85 #[ptV p, ptV q] w fun e w' => e = .returned (.int .i64 (dotP p q)) ∧ Below w.heap.size w w' := by
  obtain ⟨x, y⟩ := p
  obtain ⟨z, t⟩ := q
  unfold inB at hp hq
  simp only at hp hq
  have m1 := mul_in hp.1 hq.1 (by omega) (by omega)
  have m2 := mul_in hp.2 hq.2 (by omega) (by omega)
  have w1 : IntKind.i64.wrap (x * z) = x * z := by rw [IntKind.wrap_i64]; omega
  have w2 : IntKind.i64.wrap (y * t) = y * t := by rw [IntKind.wrap_i64]; omega
  have w3 : IntKind.i64.wrap (x * z + y * t) = x * z + y * t := by rw [IntKind.wrap_i64]; omega
  clear m1 m2 hp hq
  go_enter Try.func85, Try.ntmps85
  go_wp2
  go_ret
  exact ⟨rfl, belowA (belowA (Below.refl _ _) _) _⟩
def signI (x : Int) : Int := if 0 < x then 1 else if x < 0 then -1 else 0
theorem sign_any (x v : Int) (hv : signI x = v) (w : World) : Calls Try.prog 91 #[.int .i64 x] w fun e w' => e = .returned (.int .i64 v) ∧ w' = w := by
  unfold signI at hv
  by_cases h1 : 0 < x
  · rw [if_pos h1] at hv
    subst hv
    go_enter Try.func91, Try.ntmps91
    go_wp2
    go_ret
    exact ⟨rfl, rfl⟩
  · rw [if_neg h1] at hv
    by_cases h2 : x < 0
    · rw [if_pos h2] at hv
      subst hv
      go_enter Try.func91, Try.ntmps91
      go_wp2
      go_ret
      exact ⟨rfl, rfl⟩
    · rw [if_neg h2] at hv
      subst hv
      go_enter Try.func91, Try.ntmps91
      go_wp2
      go_ret
      exact ⟨rfl, rfl⟩
end Go.Proofs.Ytbpmiphipjkdlaa
