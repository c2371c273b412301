/- Plain definitions: the search for weights. -/
import Derived.Test.YtdbleghnblohgaaPn
namespace Go.Proofs.Ytdbleghnblohgaa

/-- The greatest sum of a losing set, and the least sum of a winning one, among the sets below k; -1: there is none. -/
def fitTo (p : Int → Bool) (ls : List Int) : Nat → Int × Int
  | 0 => (-1, -1)
  | s + 1 =>
    let x := sumTo ls s ls.length
    if p s then ((fitTo p ls s).1, if (fitTo p ls s).2 < 0 ∨ x < (fitTo p ls s).2 then x else (fitTo p ls s).2) else (max (fitTo p ls s).1 x, (fitTo p ls s).2)
def fitsI (p : Int → Bool) (n : Nat) (ls : List Int) : Int :=
  if (fitTo p ls (2 ^ n)).1 < (fitTo p ls (2 ^ n)).2 then (fitTo p ls (2 ^ n)).1 + 1 else 0
/-- Trials one after another, up to the first that answers with more than 0. -/
def tryTo (F : Nat → List Int → Int × List Int) (ls : List Int) : Nat → Int × List Int
  | 0 => (0, ls)
  | w + 1 => if 0 < (tryTo F ls w).1 then tryTo F ls w else F w (tryTo F ls w).2
def onF (p : Int → Bool) (n : Nat) : Nat → Nat → List Int → Nat → Int × List Int
  | 0, i, ls, left => if 9 < left then (0, ls.set i (left : Int)) else (fitsI p n (ls.set i (left : Int)), ls.set i (left : Int))
  | d + 1, i, ls, left => tryTo (fun w l => onF p n d (i + 1) (l.set i (w : Int)) (left - w)) ls (min left 9 + 1)
def searchTo (p : Int → Bool) (n : Nat) : Nat → Int × List Int := tryTo (fun k l => onF p n (n - 1) 0 l (k + 1)) (List.replicate n 0)

theorem tryTo_stop {F : Nat → List Int → Int × List Int} {ls : List Int} {k m : Nat} (hk : k ≤ m) (h : 0 < (tryTo F ls k).1) : tryTo F ls m = tryTo F ls k := by
  induction m with
  | zero => obtain rfl : k = 0 := by omega
            rfl
  | succ m ih =>
    by_cases e : k = m + 1
    · subst e; rfl
    · have := ih (by omega)
      simp only [tryTo, this, h, if_true]
theorem tryTo_go {F : Nat → List Int → Int × List Int} {ls : List Int} {k : Nat} (h : ¬ 0 < (tryTo F ls k).1) : tryTo F ls (k + 1) = F k (tryTo F ls k).2 := by
  simp only [tryTo, h, if_false]
theorem fitTo_range (p : Int → Bool) (ls : List Int) (h : ∀ j, j < ls.length → 0 ≤ ls.getD j 0 ∧ ls.getD j 0 ≤ 1000) (k : Nat) :
    (-1 ≤ (fitTo p ls k).1 ∧ (fitTo p ls k).1 ≤ 1000 * ls.length) ∧ -1 ≤ (fitTo p ls k).2 ∧ (fitTo p ls k).2 ≤ 1000 * ls.length := by
  induction k with
  | zero => simp [fitTo]; omega
  | succ k ih =>
    have hx := sumTo_range ls k h ls.length (Nat.le_refl _)
    simp only [fitTo]
    split
    · refine ⟨ih.1, ?_⟩
      simp only
      split <;> omega
    · refine ⟨?_, ih.2⟩
      simp only
      omega
theorem tryTo_length {F : Nat → List Int → Int × List Int} {ls : List Int} {n : Nat} (hF : ∀ w l, l.length = n → (F w l).2.length = n) (h : ls.length = n) (k : Nat) : (tryTo F ls k).2.length = n := by
  induction k with
  | zero => exact h
  | succ k ih =>
    simp only [tryTo]
    split
    · exact ih
    · exact hF _ _ ih
theorem onF_length (p : Int → Bool) (n d : Nat) : ∀ (i : Nat) (ls : List Int) (left : Nat), ls.length = n → (onF p n d i ls left).2.length = n := by
  induction d with
  | zero => intro i ls left h; simp only [onF]; split <;> simpa using h
  | succ d ih => intro i ls left h; exact tryTo_length (fun w l hl => ih _ _ _ (by simpa using hl)) h _
theorem fitTo_ge (p : Int → Bool) (ls : List Int) (k : Nat) : -1 ≤ (fitTo p ls k).1 := by
  induction k with
  | zero => simp [fitTo]
  | succ k ih =>
    simp only [fitTo]
    split
    · exact ih
    · simp only; omega
theorem tryTo_nonneg {F : Nat → List Int → Int × List Int} {ls : List Int} (hF : ∀ w l, 0 ≤ (F w l).1) (k : Nat) : 0 ≤ (tryTo F ls k).1 := by
  induction k with
  | zero => exact Int.le_refl _
  | succ k ih =>
    simp only [tryTo]
    split
    · exact ih
    · exact hF _ _
theorem onF_nonneg (p : Int → Bool) (n d : Nat) : ∀ (i : Nat) (ls : List Int) (left : Nat), 0 ≤ (onF p n d i ls left).1 := by
  induction d with
  | zero =>
    intro i ls left
    simp only [onF]
    split
    · exact Int.le_refl _
    · have := fitTo_ge p (ls.set i (left : Int)) (2 ^ n)
      simp only [fitsI]
      split <;> omega
  | succ d ih => intro i ls left; exact tryTo_nonneg (fun w l => ih _ _ _) _
end Go.Proofs.Ytdbleghnblohgaa
