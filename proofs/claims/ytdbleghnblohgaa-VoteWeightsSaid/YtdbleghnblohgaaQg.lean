/- The plain law of the specification's search for weights: it finds what the program's search finds. -/
import Derived.Test.YtdbleghnblohgaaQd
namespace Go.Proofs.Ytdbleghnblohgaa

/-- Trials one after another, up to the first that answers with more than 0. -/
def wTry (F : Nat → Int × List Int) : Nat → Int × List Int
  | 0 => (0, [])
  | x + 1 => if 0 < (wTry F x).1 then wTry F x else F x
def wR (p : Int → Bool) (n : Nat) : Nat → List Int → Nat → Int × List Int
  | 0, now, left => if 0 < left then (0, []) else (fitsI p n now, now)
  | d + 1, now, left => wTry (fun x => if 9 * d < left - x then (0, []) else wR p n d (now ++ [(x : Int)]) (left - x)) (min left 9 + 1)
theorem wTry_stop {F : Nat → Int × List Int} {k m : Nat} (hk : k ≤ m) (h : 0 < (wTry F k).1) : wTry F m = wTry F k := by
  induction m with
  | zero => obtain rfl : k = 0 := by omega
            rfl
  | succ m ih =>
    by_cases e : k = m + 1
    · subst e; rfl
    · have := ih (by omega)
      simp only [wTry, this, h, if_true]
theorem wTry_go {F : Nat → Int × List Int} {k : Nat} (h : ¬ 0 < (wTry F k).1) : wTry F (k + 1) = F k := by
  simp only [wTry, h, if_false]
theorem wTry_nonneg {F : Nat → Int × List Int} (hF : ∀ x, 0 ≤ (F x).1) (k : Nat) : 0 ≤ (wTry F k).1 := by
  induction k with
  | zero => exact Int.le_refl _
  | succ k ih =>
    simp only [wTry]
    split
    · exact ih
    · exact hF _
theorem fitsI_nonneg (p : Int → Bool) (n : Nat) (ls : List Int) : 0 ≤ fitsI p n ls := by
  have := fitTo_ge p ls (2 ^ n)
  simp only [fitsI]
  split <;> omega
theorem wR_nonneg (p : Int → Bool) (n d : Nat) : ∀ now left, 0 ≤ (wR p n d now left).1 := by
  induction d with
  | zero =>
    intro now left
    simp only [wR]
    split
    · exact Int.le_refl _
    · exact fitsI_nonneg _ _ _
  | succ d ih =>
    intro now left
    simp only [wR]
    refine wTry_nonneg (fun x => ?_) _
    split
    · exact Int.le_refl _
    · exact ih _ _
/-- The two answer alike: the same number, and the same list where it is above 0. -/
def Like (a b : Int × List Int) : Prop := a.1 = b.1 ∧ (0 < a.1 → a.2 = b.2)
theorem take_set_snoc (ls : List Int) (i : Nat) (x : Int) (hi : i < ls.length) : (ls.set i x).take (i + 1) = ls.take i ++ [x] := by
  apply List.ext_getElem
  · simp; omega
  · intro j h1 h2
    simp at h1 h2
    rw [List.getElem_take, List.getElem_set]
    by_cases e : i = j
    · subst e
      rw [if_pos rfl, List.getElem_append_right (by simp; omega)]
      simp
    · rw [if_neg e, List.getElem_append_left (by simp; omega)]
      simp
theorem try_like {F : Nat → List Int → Int × List Int} {G : Nat → Int × List Int} {ls : List Int} {n i : Nat} (hl : ls.length = n)
    (hF : ∀ w l, l.length = n → (F w l).2.length = n ∧ ∀ j, j < i → (F w l).2.getD j 0 = l.getD j 0)
    (m : Nat) (hG : ∀ w l, w < m → l.length = n → (∀ j, j < i → l.getD j 0 = ls.getD j 0) → Like (F w l) (G w)) : Like (tryTo F ls m) (wTry G m) := by
  induction m with
  | zero => exact ⟨rfl, fun h => absurd h (by simp [tryTo])⟩
  | succ m ih =>
    have h1 := ih (fun w l hw => hG w l (by omega))
    have hk := tryTo_keeps hl hF m
    simp only [tryTo, wTry]
    by_cases h : 0 < (tryTo F ls m).1
    · rw [if_pos h, if_pos (by rw [← h1.1]; exact h)]
      exact h1
    · rw [if_neg h, if_neg (by rw [← h1.1]; exact h)]
      exact hG m _ (by omega) hk.1 hk.2
theorem prefix_take {l ls : List Int} {n i : Nat} (hl : l.length = n) (hls : ls.length = n) (hi : i ≤ n) (h : ∀ j, j < i → l.getD j 0 = ls.getD j 0) : l.take i = ls.take i := by
  apply List.ext_getElem
  · simp; omega
  · intro j h1 h2
    simp at h1 h2
    have := h j (by omega)
    rw [getD_get (by omega), getD_get (by omega)] at this
    simpa using this
/-- The program's search from a position on, and the specification's from the list of those before. -/
theorem on_like (p : Int → Bool) (n d : Nat) : ∀ (i : Nat) (ls : List Int) (left : Nat), ls.length = n → i + d + 1 = n → LightTo ls i → Like (onF p n d i ls left) (wR p n (d + 1) (ls.take i) left) := by
  induction d with
  | zero =>
    intro i ls left hl hi hli
    obtain rfl : i + 1 = n := by omega
    have hx : ∀ x, x < left → (if 9 * 0 < left - x then ((0 : Int), ([] : List Int)) else wR p (i + 1) 0 (ls.take i ++ [(x : Int)]) (left - x)) = (0, []) := fun x hx => by rw [if_pos (by omega)]
    have h0 : ∀ k, k ≤ left → (wTry (fun x => if 9 * 0 < left - x then ((0 : Int), ([] : List Int)) else wR p (i + 1) 0 (ls.take i ++ [(x : Int)]) (left - x)) k) = (0, []) := by
      intro k
      induction k with
      | zero => intro _; rfl
      | succ k ih =>
        intro hk
        rw [wTry_go (by rw [ih (by omega)]; simp)]
        exact hx k (by omega)
    simp only [onF]
    by_cases h9 : 9 < left
    · rw [if_pos h9]
      have : wR p (i + 1) (0 + 1) (ls.take i) left = (0, []) := by
        simp only [wR]
        have := h0 (min left 9 + 1) (by omega)
        simpa [wR] using this
      rw [this]
      exact ⟨rfl, fun h => absurd h (by simp)⟩
    · rw [if_neg h9]
      have : wR p (i + 1) (0 + 1) (ls.take i) left = (fitsI p (i + 1) (ls.take i ++ [(left : Int)]), ls.take i ++ [(left : Int)]) := by
        have e : min left 9 + 1 = left + 1 := by omega
        have h1 := wTry_go (F := fun x => if 9 * 0 < left - x then ((0 : Int), ([] : List Int)) else wR p (i + 1) 0 (ls.take i ++ [(x : Int)]) (left - x)) (k := left) (by rw [h0 left (Nat.le_refl _)]; simp)
        simp only [wR] at h1 ⊢
        rw [e, h1]
        simp
      rw [this]
      have e2 : ls.set i (left : Int) = ls.take i ++ [(left : Int)] := by
        have := take_set_snoc ls i (left : Int) (by omega)
        rwa [List.take_of_length_le (by simp; omega)] at this
      rw [e2]
      exact ⟨rfl, fun _ => rfl⟩
  | succ d ih =>
    intro i ls left hl hi hli
    show Like (tryTo (fun w l => onF p n d (i + 1) (l.set i (w : Int)) (left - w)) ls (min left 9 + 1)) (wTry _ (min left 9 + 1))
    refine try_like (n := n) (i := i) hl (fun w l hw => ?_) _ (fun w l hw hlen hpre => ?_)
    · have h1 := onF_keeps p n d (i + 1) (l.set i (w : Int)) (left - w) (by simpa using hw) (by omega)
      exact ⟨h1.1, fun j hj => by rw [h1.2 j (by omega), set_getD l i j _ (by omega), if_neg (by omega)]⟩
    · have hli' : LightTo (l.set i (w : Int)) (i + 1) := fun j hj => by
        rw [set_getD l i j _ (by omega)]
        split
        · omega
        · rw [hpre j (by omega)]; exact hli j (by omega)
      by_cases h9 : 9 * (d + 1) < left - w
      · rw [if_pos h9]
        have hz : ¬ 0 < (onF p n d (i + 1) (l.set i (w : Int)) (left - w)).1 := fun hpos => by
          have h2 := onF_sound p n d (i + 1) (l.set i (w : Int)) (left - w) (by simpa using hlen) (by omega) hli' hpos
          have h3 := onF_keeps p n d (i + 1) (l.set i (w : Int)) (left - w) (by simpa using hlen) (by omega)
          have h4 : allTo (onF p n d (i + 1) (l.set i (w : Int)) (left - w)).2 (i + 1) = allTo (l.set i (w : Int)) (i + 1) := all_take (i + 1) h3.2
          have h5 : ∀ k, i + 1 + k ≤ n → allTo (onF p n d (i + 1) (l.set i (w : Int)) (left - w)).2 (i + 1 + k) ≤ allTo (onF p n d (i + 1) (l.set i (w : Int)) (left - w)).2 (i + 1) + 9 * k := by
            intro k
            induction k with
            | zero => intro _; simp
            | succ k ihk =>
              intro hk
              have h6 := ihk (by omega)
              have h7 := h2.1 (i + 1 + k) (by omega)
              rw [← Nat.add_assoc]
              simp only [allTo] at h6 ⊢
              omega
          have h8 := h5 (d + 1) (by omega)
          rw [show i + 1 + (d + 1) = n by omega, h2.2.1, h4] at h8
          omega
        have h0 := onF_nonneg p n d (i + 1) (l.set i (w : Int)) (left - w)
        exact ⟨by simp only; omega, fun h => absurd h hz⟩
      · rw [if_neg h9]
        have h1 := ih (i + 1) (l.set i (w : Int)) (left - w) (by simpa using hlen) (by omega) hli'
        rw [take_set_snoc l i _ (by omega), prefix_take hlen hl (by omega) hpre] at h1
        exact h1
/-- The specification's search by the sum. -/
def rSearch (p : Int → Bool) (n : Nat) : Nat → Int × List Int := wTry (fun k => wR p n n [] (k + 1))
theorem search_like (p : Int → Bool) (n : Nat) (hn : 1 ≤ n) (m : Nat) : Like (searchTo p n m) (rSearch p n m) := by
  unfold searchTo rSearch
  refine try_like (n := n) (i := 0) (rep_len n) (fun w l hl => ⟨onF_length p n (n - 1) 0 l (w + 1) hl, fun j hj => by omega⟩) _ (fun w l _ hl _ => ?_)
  have h := on_like p n (n - 1) 0 l (w + 1) hl (by omega) (fun j hj => by omega)
  rw [show n - 1 + 1 = n by omega] at h
  simpa using h
end Go.Proofs.Ytdbleghnblohgaa
