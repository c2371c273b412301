/- Plain definitions: rules, on numbers and lists. -/
import Derived.Test.YtdbleghnblohgaaPl
namespace Go.Proofs.Ytdbleghnblohgaa

def andI (x s : Int) : Int := ((x.toNat &&& s.toNat : Nat) : Int)
/-- Is a set a part of another one? -/
def subB (x s : Int) : Bool := decide (andI x s = x)
/-- Does a set win by a rule? -/
def ruleB (l : List Int) (s : Int) : Bool := l.any fun x => subB x s
def clashB (l : List Int) (x : Int) : Bool := l.any fun y => subB y x || subB x y
def okTo (n : Nat) (l : List Int) : Nat → Bool
  | 0 => true
  | i + 1 => okTo n l i && (decide (1 ≤ l.getD i 0 ∧ l.getD i 0 < 2 ^ n) && ((decide (i = 0) || decide (l.getD (i - 1) 0 < l.getD i 0)) && !clashB (l.take i) (l.getD i 0)))
/-- A rule of n drovers. -/
def isRule (n : Int) (l : List Int) : Bool := decide (1 ≤ n ∧ n ≤ 5 ∧ 0 < l.length) && okTo n.toNat l l.length
theorem okTo_range (n : Nat) (l : List Int) (k : Nat) : okTo n l k = true → ∀ j, j < k → 1 ≤ l.getD j 0 ∧ l.getD j 0 < 2 ^ n := by
  induction k with
  | zero => intro _ j hj; omega
  | succ k ih =>
    intro h j hj
    simp only [okTo, Bool.and_eq_true, decide_eq_true_eq] at h
    by_cases e : j = k
    · subst e; exact h.2.1
    · exact ih h.1 j (by omega)
theorem okTo_stop (n : Nat) (l : List Int) (k m : Nat) (hkm : k ≤ m) (h : okTo n l k = false) : okTo n l m = false := by
  induction m with
  | zero => obtain rfl : k = 0 := by omega
            exact h
  | succ m ih =>
    by_cases e : k = m + 1
    · subst e; exact h
    · simp only [okTo, ih (by omega), Bool.false_and]
end Go.Proofs.Ytdbleghnblohgaa
