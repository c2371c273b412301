/- Plain laws: all states of a pasture, one by one. -/
import Derived.Test.YtnhbkopgbibcgaaHm
import Derived.Test.YtnhbkopgbibcgaaHh
namespace Go.Proofs.Ytnhbkopgbibcgaa

theorem anti {a b : Int} {l : List Int} (h : stateB a b l = true) : ∀ j i, i ≤ j → j < l.length → l.getD j 0 ≤ l.getD i 0 := by
  have hs := (of_decide_eq_true h).2
  intro j
  induction j with
  | zero => intro i hi _; obtain rfl : i = 0 := by omega
            exact Int.le_refl _
  | succ j ih =>
    intro i hi hj
    by_cases e : i = j + 1
    · subst e; exact Int.le_refl _
    · have h1 := ih i (by omega) (by omega)
      have h2 := (hs (j + 1) hj).2 (by omega)
      rw [Nat.add_sub_cancel] at h2
      omega
theorem mem_stF : ∀ (t : List Int) (most : Nat) (now : List Int), (∀ j, j < t.length → 0 ≤ t.getD j 0 ∧ t.getD j 0 ≤ most) → (∀ j i, i ≤ j → j < t.length → t.getD j 0 ≤ t.getD i 0) → now ++ t ∈ stF t.length most now
  | [], most, now, _, _ => by simp [stF]
  | x :: t, most, now, h1, h2 => by
    have hx := h1 0 (by simp)
    have hx' : 0 ≤ x ∧ x ≤ most := hx
    rw [List.length_cons, stF, List.mem_flatMap]
    refine ⟨x.toNat, by rw [List.mem_range]; omega, ?_⟩
    have e : ((x.toNat : Nat) : Int) = x := by omega
    rw [e, show now ++ x :: t = (now ++ [x]) ++ t by simp]
    refine mem_stF t x.toNat (now ++ [x]) (fun j hj => ?_) (fun j i hi hj => ?_)
    · have a1 := h1 (j + 1) (by simpa using hj)
      have a2 := h2 (j + 1) 0 (by omega) (by simpa using hj)
      simp only [List.getD_cons_succ, List.getD_cons_zero] at a1 a2
      omega
    · have := h2 (j + 1) (i + 1) (by omega) (by simpa using hj)
      simpa only [List.getD_cons_succ] using this
theorem state_mem {n b : Nat} {l : List Int} (h : stateB n b l = true) : l ∈ stF n b [] := by
  have hs := of_decide_eq_true h
  have := mem_stF l b [] (fun j hj => (hs.2 j hj).1) (anti h)
  rw [show n = l.length by omega]
  simpa using this
def allStates (P : Nat → Nat → List Int → Bool) : Bool := (List.range 6).all fun n => (List.range 6).all fun b => (stF (n + 1) (b + 1) []).all (P (n + 1) (b + 1))
theorem for_states {P : Nat → Nat → List Int → Bool} (h : allStates P = true) {n b : Nat} {l : List Int} (hn1 : 1 ≤ n) (hn6 : n ≤ 6) (hb1 : 1 ≤ b) (hb6 : b ≤ 6) (hs : stateB n b l = true) : P n b l = true := by
  unfold allStates at h
  rw [List.all_eq_true] at h
  have h1 := h (n - 1) (by rw [List.mem_range]; omega)
  rw [List.all_eq_true] at h1
  have h2 := h1 (b - 1) (by rw [List.mem_range]; omega)
  rw [show n - 1 + 1 = n by omega, show b - 1 + 1 = b by omega, List.all_eq_true] at h2
  exact h2 l (state_mem hs)

/-- A day, row by row from the last. -/
def dayG (p : Int) : List Int → List Int
  | [] => []
  | x :: t => max ((dayG x t).headD 0) (if x < p then x + 1 else 0) :: dayG x t
def dayF (b : Nat) (l : List Int) : List Int := dayG b l
set_option maxRecDepth 100000 in
theorem dayF_all : allStates (fun n b l => decide (dayP b l = dayF b l) && stateB n b (dayF b l)) = true := by decide +kernel
theorem day_state {n b : Nat} {l : List Int} (hn1 : 1 ≤ n) (hn6 : n ≤ 6) (hb1 : 1 ≤ b) (hb6 : b ≤ 6) (hs : stateB n b l = true) : dayP b l = dayF b l ∧ stateB n b (dayP b l) = true := by
  have := for_states dayF_all hn1 hn6 hb1 hb6 hs
  simp only [Bool.and_eq_true, decide_eq_true_eq] at this
  exact ⟨this.1, by rw [this.1]; exact this.2⟩
end Go.Proofs.Ytnhbkopgbibcgaa
