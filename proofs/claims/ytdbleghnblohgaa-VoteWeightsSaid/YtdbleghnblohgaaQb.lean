/- The plain law of the search for weights. -/
import Derived.Test.YtdbleghnblohgaaQa
namespace Go.Proofs.Ytdbleghnblohgaa

theorem fit_lose (p : Int → Bool) (ls : List Int) (k : Nat) : ∀ s, s < k → p s = false → sumTo ls s ls.length ≤ (fitTo p ls k).1 := by
  induction k with
  | zero => intro s hs; omega
  | succ k ih =>
    intro s hs hp
    simp only [fitTo]
    by_cases e : s = k
    · subst e
      rw [hp]
      simp only [Bool.false_eq_true, if_false]
      omega
    · have := ih s (by omega) hp
      split
      · exact this
      · simp only; omega
theorem fit_win (p : Int → Bool) (ls : List Int) (h0 : ∀ s : Nat, 0 ≤ sumTo ls s ls.length) (k : Nat) : ∀ s, s < k → p s = true → 0 ≤ (fitTo p ls k).2 ∧ (fitTo p ls k).2 ≤ sumTo ls s ls.length := by
  induction k with
  | zero => intro s hs; omega
  | succ k ih =>
    intro s hs hp
    simp only [fitTo]
    have hk := h0 k
    by_cases e : s = k
    · subst e
      rw [hp]
      simp only [if_true]
      split <;> omega
    · have := ih s (by omega) hp
      split
      · simp only
        split <;> omega
      · exact this
theorem fit_lose_at (p : Int → Bool) (ls : List Int) (k : Nat) : (fitTo p ls k).1 = -1 ∨ ∃ s, s < k ∧ p (s : Nat) = false ∧ sumTo ls s ls.length = (fitTo p ls k).1 := by
  induction k with
  | zero => left; rfl
  | succ k ih =>
    simp only [fitTo]
    cases hp : p (k : Nat)
    · simp only [Bool.false_eq_true, if_false]
      by_cases h : (fitTo p ls k).1 ≤ sumTo ls k ls.length
      · right; exact ⟨k, by omega, hp, by omega⟩
      · rcases ih with e | ⟨s, h1, h2, h3⟩
        · left; omega
        · right; exact ⟨s, by omega, h2, by omega⟩
    · simp only [if_true]
      rcases ih with e | ⟨s, h1, h2, h3⟩
      · exact Or.inl e
      · right; exact ⟨s, by omega, h2, h3⟩
theorem fit_win_at (p : Int → Bool) (ls : List Int) (k : Nat) : (fitTo p ls k).2 = -1 ∨ ∃ s, s < k ∧ p (s : Nat) = true ∧ sumTo ls s ls.length = (fitTo p ls k).2 := by
  induction k with
  | zero => left; rfl
  | succ k ih =>
    simp only [fitTo]
    cases hp : p (k : Nat)
    · simp only [Bool.false_eq_true, if_false]
      rcases ih with e | ⟨s, h1, h2, h3⟩
      · exact Or.inl e
      · right; exact ⟨s, by omega, h2, h3⟩
    · simp only [if_true]
      split
      · right; exact ⟨k, by omega, hp, rfl⟩
      · rcases ih with e | ⟨s, h1, h2, h3⟩
        · exact Or.inl e
        · right; exact ⟨s, by omega, h2, h3⟩
/-- The first k weights are from 0 to 9. -/
def LightTo (ls : List Int) (k : Nat) : Prop := ∀ j, j < k → 0 ≤ ls.getD j 0 ∧ ls.getD j 0 ≤ 9
theorem light_sum {ls : List Int} {n : Nat} (h : LightTo ls n) (s : Int) : ∀ k, k ≤ n → 0 ≤ sumTo ls s k
  | 0, _ => Int.le_refl _
  | k + 1, hk => by
    have h1 := light_sum h s k (by omega)
    have h2 := h k (by omega)
    have h3 := mul_bit (x := ls.getD k 0) ⟨h2.1, by omega⟩ (bit_range s k)
    simp only [sumTo]
    omega
theorem fits_sound (p : Int → Bool) (n : Nat) (ls : List Int) (hn : ls.length = n) (hl : LightTo ls n) (h : 0 < fitsI p n ls) : Weighs p n ls (fitsI p n ls) := by
  have h0 : ∀ s : Nat, 0 ≤ sumTo ls s ls.length := fun s => light_sum hl s _ (by omega)
  refine ⟨hn, hl, fun s hs => ?_⟩
  unfold fitsI at h ⊢
  split at h
  · rename_i hlt
    rw [if_pos hlt]
    cases hp : p (s : Nat)
    · have := fit_lose p ls (2 ^ n) s hs hp
      rw [hn] at this
      exact (decide_eq_false (by omega)).symm
    · have := fit_win p ls h0 (2 ^ n) s hs hp
      rw [hn] at this
      exact (decide_eq_true (by omega)).symm
  · omega
theorem fits_pos {p : Int → Bool} {n : Nat} {ls : List Int} {q : Int} (h : Weighs p n ls q) (hf : p ((2 ^ n - 1 : Nat) : Int) = true) (hz : p ((0 : Nat) : Int) = false) : 0 < fitsI p n ls := by
  have hpos := Nat.two_pow_pos n
  have hn := h.len
  have h0 : ∀ s : Nat, 0 ≤ sumTo ls s ls.length := fun s => light_sum h.light s _ (by omega)
  have h1 := fit_lose p ls (2 ^ n) 0 hpos hz
  have h2 := h0 0
  have h3 := fit_win p ls h0 (2 ^ n) (2 ^ n - 1) (by omega) hf
  have h4 : (fitTo p ls (2 ^ n)).1 < q := by
    rcases fit_lose_at p ls (2 ^ n) with e | ⟨s, hs, hp, e⟩
    · omega
    · have := h.fits s hs
      rw [hp] at this
      have := of_decide_eq_false this.symm
      rw [hn] at e
      omega
  have h5 : q ≤ (fitTo p ls (2 ^ n)).2 := by
    rcases fit_win_at p ls (2 ^ n) with e | ⟨s, hs, hp, e⟩
    · omega
    · have := h.fits s hs
      rw [hp] at this
      have := of_decide_eq_true this.symm
      rw [hn] at e
      omega
  unfold fitsI
  rw [if_pos (by omega)]
  omega
theorem tryTo_at {F : Nat → List Int → Int × List Int} {ls : List Int} {k : Nat} (h : 0 < (tryTo F ls k).1) (h0 : k ≠ 0) : ∃ w, w < k ∧ tryTo F ls k = F w (tryTo F ls w).2 := by
  induction k with
  | zero => exact absurd rfl h0
  | succ k ih =>
    by_cases hk : 0 < (tryTo F ls k).1
    · have e := tryTo_stop (m := k + 1) (by omega) hk
      by_cases hz : k = 0
      · subst hz
        simp [tryTo] at hk
      · obtain ⟨w, hw, e2⟩ := ih hk hz
        exact ⟨w, by omega, e.trans e2⟩
    · exact ⟨k, by omega, tryTo_go hk⟩
theorem tryTo_found {F : Nat → List Int → Int × List Int} {ls : List Int} {w k : Nat} (hw : w < k) (h : 0 < (F w (tryTo F ls w).2).1) : 0 < (tryTo F ls k).1 ∧ tryTo F ls k = tryTo F ls (w + 1) := by
  have h1 : 0 < (tryTo F ls (w + 1)).1 := by
    by_cases hk : 0 < (tryTo F ls w).1
    · rw [tryTo_stop (m := w + 1) (by omega) hk]; exact hk
    · rw [tryTo_go hk]; exact h
  have e := tryTo_stop (m := k) (by omega) h1
  exact ⟨by rw [e]; exact h1, e⟩
theorem set_getD (ls : List Int) (i j : Nat) (x : Int) (hi : i < ls.length) : (ls.set i x).getD j 0 = if j = i then x else ls.getD j 0 := by
  simp only [List.getD_eq_getElem?_getD, List.getElem?_set]
  by_cases e : j = i
  · subst e; simp [hi]
  · rw [if_neg (fun h => e h.symm), if_neg e]
theorem tryTo_keeps {F : Nat → List Int → Int × List Int} {ls : List Int} {n i : Nat} (hl : ls.length = n) (hF : ∀ w l, l.length = n → (F w l).2.length = n ∧ ∀ j, j < i → (F w l).2.getD j 0 = l.getD j 0) (k : Nat) :
    (tryTo F ls k).2.length = n ∧ ∀ j, j < i → (tryTo F ls k).2.getD j 0 = ls.getD j 0 := by
  induction k with
  | zero => exact ⟨hl, fun j _ => rfl⟩
  | succ k ih =>
    simp only [tryTo]
    split
    · exact ih
    · have := hF k (tryTo F ls k).2 ih.1
      exact ⟨this.1, fun j hj => (this.2 j hj).trans (ih.2 j hj)⟩
theorem onF_keeps (p : Int → Bool) (n d : Nat) : ∀ (i : Nat) (ls : List Int) (left : Nat), ls.length = n → i + d < n → (onF p n d i ls left).2.length = n ∧ ∀ j, j < i → (onF p n d i ls left).2.getD j 0 = ls.getD j 0 := by
  induction d with
  | zero =>
    intro i ls left hl hi
    have : ∀ j, j < i → (ls.set i (left : Int)).getD j 0 = ls.getD j 0 := fun j hj => by rw [set_getD ls i j _ (by omega), if_neg (by omega)]
    simp only [onF]
    split <;> exact ⟨by simpa using hl, this⟩
  | succ d ih =>
    intro i ls left hl hi
    simp only [onF]
    refine tryTo_keeps hl (fun w l hw => ?_) _
    have h1 := ih (i + 1) (l.set i (w : Int)) (left - w) (by simpa using hw) (by omega)
    exact ⟨h1.1, fun j hj => by rw [h1.2 j (by omega), set_getD l i j _ (by omega), if_neg (by omega)]⟩
theorem all_take {a b : List Int} : ∀ k, (∀ j, j < k → a.getD j 0 = b.getD j 0) → allTo a k = allTo b k
  | 0, _ => rfl
  | k + 1, h => by simp only [allTo, all_take k (fun j hj => h j (by omega)), h k (by omega)]
/-- What the search finds is light, has the sum that was asked for, and fits. -/
theorem onF_sound (p : Int → Bool) (n d : Nat) : ∀ (i : Nat) (ls : List Int) (left : Nat), ls.length = n → i + d + 1 = n → LightTo ls i → 0 < (onF p n d i ls left).1 →
    LightTo (onF p n d i ls left).2 n ∧ allTo (onF p n d i ls left).2 n = allTo ls i + left ∧ (onF p n d i ls left).1 = fitsI p n (onF p n d i ls left).2 := by
  induction d with
  | zero =>
    intro i ls left hl hi hli h
    simp only [onF] at h ⊢
    split at h
    · simp at h
    · rename_i h9
      rw [if_neg h9]
      obtain rfl : i + 1 = n := by omega
      refine ⟨fun j hj => ?_, ?_, rfl⟩
      · simp only
        rw [set_getD ls i j _ (by omega)]
        split
        · omega
        · exact hli j (by omega)
      · simp only [allTo]
        rw [set_getD ls i i _ (by omega), if_pos rfl, all_take (b := ls) i (fun j hj => by rw [set_getD ls i j _ (by omega), if_neg (by omega)])]
  | succ d ih =>
    intro i ls left hl hi hli h
    simp only [onF] at h ⊢
    obtain ⟨w, hw, e⟩ := tryTo_at h (by omega)
    have hk := tryTo_keeps (F := fun w l => onF p n d (i + 1) (l.set i (w : Int)) (left - w)) (i := i) hl (fun w l hl' => by
      have h1 := onF_keeps p n d (i + 1) (l.set i (w : Int)) (left - w) (by simpa using hl') (by omega)
      exact ⟨h1.1, fun j hj => by rw [h1.2 j (by omega), set_getD l i j _ (by omega), if_neg (by omega)]⟩) w
    rw [e] at h ⊢
    generalize (tryTo (fun w l => onF p n d (i + 1) (l.set i (w : Int)) (left - w)) ls w).2 = l at *
    have h2 := ih (i + 1) (l.set i (w : Int)) (left - w) (by simpa using hk.1) (by omega) (fun j hj => by
      rw [set_getD l i j _ (by omega)]
      split
      · omega
      · rw [hk.2 j (by omega)]; exact hli j (by omega)) h
    refine ⟨h2.1, ?_, h2.2.2⟩
    rw [h2.2.1]
    simp only [allTo]
    rw [set_getD l i i _ (by omega), if_pos rfl, all_take (b := ls) i (fun j hj => by rw [set_getD l i j _ (by omega), if_neg (by omega), hk.2 j hj])]
    omega
theorem list_ext {a b : List Int} {n : Nat} (ha : a.length = n) (hb : b.length = n) (h : ∀ j, j < n → a.getD j 0 = b.getD j 0) : a = b := by
  apply List.ext_getElem (by omega)
  intro j h1 h2
  have := h j (by omega)
  rwa [getD_get h1, getD_get h2] at this
theorem all_mono {ws : List Int} {n : Nat} (h : LightTo ws n) {i k : Nat} (hik : i ≤ k) (hk : k ≤ n) : allTo ws i ≤ allTo ws k := by
  induction k with
  | zero => obtain rfl : i = 0 := by omega
            exact Int.le_refl _
  | succ k ih =>
    by_cases e : i = k + 1
    · subst e; exact Int.le_refl _
    · have := ih (by omega) (by omega)
      have := h k (by omega)
      simp only [allTo]
      omega
/-- Where there are weights with the sum that is asked for, the search finds some. -/
theorem onF_found (p : Int → Bool) (n : Nat) (ws : List Int) (hw : ws.length = n) (hlw : LightTo ws n) (hfit : 0 < fitsI p n ws) (d : Nat) : ∀ (i : Nat) (ls : List Int) (left : Nat), ls.length = n → i + d + 1 = n → (∀ j, j < i → ls.getD j 0 = ws.getD j 0) →
    allTo ws i + left = allTo ws n → 0 < (onF p n d i ls left).1 := by
  induction d with
  | zero =>
    intro i ls left hl hi hpre hs
    obtain rfl : i + 1 = n := by omega
    have h9 := hlw i (by omega)
    simp only [allTo] at hs
    simp only [onF]
    rw [if_neg (by omega)]
    have : ls.set i (left : Int) = ws := list_ext (by simpa using hl) hw (fun j hj => by
      rw [set_getD ls i j _ (by omega)]
      split
      · rename_i e; subst e; omega
      · exact hpre j (by omega))
    rw [this]
    exact hfit
  | succ d ih =>
    intro i ls left hl hi hpre hs
    have h9 := hlw i (by omega)
    have hm := all_mono hlw (show i + 1 ≤ n by omega) (Nat.le_refl n)
    have ha : allTo ws (i + 1) = allTo ws i + ws.getD i 0 := rfl
    obtain ⟨x, hx⟩ := Int.eq_ofNat_of_zero_le h9.1
    simp only [onF]
    have hk := tryTo_keeps (F := fun w l => onF p n d (i + 1) (l.set i (w : Int)) (left - w)) (i := i) hl (fun w l hl' => by
      have h1 := onF_keeps p n d (i + 1) (l.set i (w : Int)) (left - w) (by simpa using hl') (by omega)
      exact ⟨h1.1, fun j hj => by rw [h1.2 j (by omega), set_getD l i j _ (by omega), if_neg (by omega)]⟩) x
    refine (tryTo_found (w := x) (by omega) ?_).1
    refine ih (i + 1) _ (left - x) (by simpa using hk.1) (by omega) (fun j hj => ?_) (by omega)
    rw [set_getD _ i j _ (by omega)]
    split
    · rename_i e; subst e; exact hx.symm
    · rw [hk.2 j (by omega)]; exact hpre j (by omega)
end Go.Proofs.Ytdbleghnblohgaa
