/- Plain law: as many states as choose says are the same after q days. -/
import Derived.Test.YtnhbkopgbibcgaaHp
import Derived.Test.YtnhbkopgbibcgaaHn
namespace Go.Proofs.Ytnhbkopgbibcgaa

theorem stF_state : ∀ (d most : Nat) (now l : List Int), l ∈ stF d most now → ∃ t, l = now ++ t ∧ t.length = d ∧ (∀ j, j < t.length → 0 ≤ t.getD j 0 ∧ t.getD j 0 ≤ most) ∧ (∀ j, 0 < j → j < t.length → t.getD j 0 ≤ t.getD (j - 1) 0)
  | 0, most, now, l, h => by
    simp [stF] at h
    exact ⟨[], by simp [h], rfl, fun j hj => by simp at hj, fun j _ hj => by simp at hj⟩
  | d + 1, most, now, l, h => by
    rw [stF, List.mem_flatMap] at h
    obtain ⟨x, hx, h⟩ := h
    rw [List.mem_range] at hx
    obtain ⟨t, e, hl, h1, h2⟩ := stF_state d x (now ++ [(x : Int)]) l h
    refine ⟨(x : Int) :: t, by rw [e]; simp, by simp [hl], fun j hj => ?_, fun j h0 hj => ?_⟩
    · cases j with
      | zero => simp only [List.getD_cons_zero]; omega
      | succ j =>
        have := h1 j (by simpa using hj)
        simp only [List.getD_cons_succ]; omega
    · cases j with
      | zero => omega
      | succ j =>
        cases j with
        | zero =>
          have := h1 0 (by simpa using hj)
          simp only [List.getD_cons_succ, Nat.zero_add, Nat.sub_self, List.getD_cons_zero]
          exact this.2
        | succ j =>
          have := h2 (j + 1) (by omega) (by simpa using hj)
          simpa only [List.getD_cons_succ, Nat.add_sub_cancel] using this
theorem mem_state {n b : Nat} {l : List Int} (h : l ∈ stF n b []) : stateB n b l = true := by
  obtain ⟨t, e, hl, h1, h2⟩ := stF_state n b [] l h
  rw [List.nil_append] at e
  subst e
  exact decide_eq_true ⟨by omega, fun j hj => ⟨h1 j hj, fun h0 => h2 j h0 hj⟩⟩
/-- Days, by the quick day. -/
def iterF (b : Nat) (l : List Int) : Nat → List Int
  | 0 => l
  | k + 1 => dayF b (iterF b l k)
theorem iter_state {n b : Nat} {l : List Int} (hn1 : 1 ≤ n) (hn6 : n ≤ 6) (hb1 : 1 ≤ b) (hb6 : b ≤ 6) (hs : stateB n b l = true) (k : Nat) : stateB n b (iterDay b l k) = true ∧ iterDay b l k = iterF b l k := by
  induction k with
  | zero => exact ⟨hs, rfl⟩
  | succ k ih =>
    have h := day_state hn1 hn6 hb1 hb6 ih.1
    refine ⟨h.2, ?_⟩
    show dayP b (iterDay b l k) = dayF b (iterF b l k)
    rw [h.1, ih.2]
theorem fixTo_count (b q : Nat) (xs : List (List Int)) (k : Nat) (hk : k ≤ xs.length) : fixTo b q xs k = (xs.take k).countP fun l => decide (iterDay b l q = l) := by
  induction k with
  | zero => rfl
  | succ k ih =>
    have e : xs.take (k + 1) = xs.take k ++ [xs.getD k []] := by
      rw [List.take_succ_eq_append_getElem (by omega), List.getD_eq_getElem?_getD, List.getElem?_eq_getElem (by omega)]; rfl
    rw [fixTo, ih (by omega), e, List.countP_append, List.countP_singleton]
/-- From day q on, k days more: as many pairs agree as choose says. -/
def chkDays (n m : Nat) : Nat → Nat → List (List Int × List Int) → Bool
  | 0, _, _ => true
  | k + 1, q, ps => decide ((ps.countP fun p => decide (p.2 = p.1)) = sameP n m q) && chkDays n m k (q + 1) (ps.map fun p => (p.1, dayF m p.2))
def chkAll : Bool := (List.range 6).all fun n => (List.range 6).all fun m => chkDays (n + 1) (m + 1) (n + m + 2) 0 ((stF (n + 1) (m + 1) []).map fun l => (l, l))
set_option maxRecDepth 100000 in
theorem chk_all : chkAll = true := by decide +kernel
theorem chk_days (n m : Nat) (xs : List (List Int)) : ∀ k q, chkDays n m k q (xs.map fun l => (l, iterF m l q)) = true → ∀ j, q ≤ j → j < q + k → (xs.countP fun l => decide (iterF m l j = l)) = sameP n m j
  | 0, q, _, j, h1, h2 => by omega
  | k + 1, q, h, j, h1, h2 => by
    simp only [chkDays, Bool.and_eq_true, decide_eq_true_eq] at h
    obtain ⟨ha, hb⟩ := h
    by_cases e : j = q
    · subst e
      rw [List.countP_map] at ha
      exact ha
    · refine chk_days n m xs k (q + 1) ?_ j (by omega) (by omega)
      rw [List.map_map] at hb
      exact hb
theorem sames_eq {n m q : Nat} (hn1 : 1 ≤ n) (hn6 : n ≤ 6) (hm1 : 1 ≤ m) (hm6 : m ≤ 6) (hq : q < n + m) : rsameP n m q = sameP n m q := by
  have h := chk_all
  unfold chkAll at h
  rw [List.all_eq_true] at h
  have h1 := h (n - 1) (by rw [List.mem_range]; omega)
  rw [List.all_eq_true] at h1
  have h2 := h1 (m - 1) (by rw [List.mem_range]; omega)
  rw [show n - 1 + 1 = n by omega, show m - 1 + 1 = m by omega, show n - 1 + (m - 1) + 2 = n + m by omega] at h2
  have h3 := chk_days n m (stF n m []) (n + m) 0 h2 q (Nat.zero_le _) (by omega)
  unfold rsameP
  rw [fixTo_count _ _ _ _ (Nat.le_refl _), List.take_length, ← h3]
  refine List.countP_congr fun l hl => ?_
  rw [(iter_state hn1 hn6 hm1 hm6 (mem_state hl) q).2]
end Go.Proofs.Ytnhbkopgbibcgaa
