/- Plain: the brands that flips reach from the fan, up to seven corners. -/
import Derived.Test.YtddcdopimpfhcaaCo
import Derived.Test.YtddcdopimpfhcaaCy
namespace Go.Proofs.Ytddcdopimpfhcaa

abbrev LL := List (List (Int × Int))
/-- One more, if it is not there. -/
def addM (M : LL) (x : Option (List (Int × Int))) : LL := match x with
  | some y => if M.contains y then M else M ++ [y]
  | none => M
def inM (n a : Nat) (M : LL) : Nat → LL
  | 0 => M
  | i + 1 => addM (inM n a M i) (flipL n ((inM n a M i).getD a []) i)
def fanL (n : Nat) : List (Int × Int) := (List.range (n - 3)).map fun (k : Nat) => ((0 : Int), (k : Int) + 2)
def outM (n : Nat) : Nat → LL
  | 0 => [fanL n]
  | a + 1 => inM n a (outM n a) (n - 3)
def okI (n a C : Nat) (M : LL) (i : Nat) : Bool := brandB n (M.getD a []) && (flipL n (M.getD a []) i).isSome && decide (a < M.length ∧ M.length ≤ C)
def okIn (n a C : Nat) (M : LL) : Nat → Bool
  | 0 => true
  | i + 1 => okIn n a C M i && okI n a C (inM n a M i) i
def chk (n C : Nat) : Nat → Nat → LL → Bool
  | 0, a, M => decide (a = C) && decide (M.length = C)
  | f + 1, a, M => decide (a < M.length ∧ M.length ≤ C) && okIn n a C M (n - 3) && chk n C f (a + 1) (inM n a M (n - 3))
theorem chk3 : chk 3 1 1 0 [fanL 3] = true := by decide +kernel
theorem chk4 : chk 4 2 2 0 [fanL 4] = true := by decide +kernel
theorem chk5 : chk 5 5 5 0 [fanL 5] = true := by decide +kernel
theorem chk6 : chk 6 14 14 0 [fanL 6] = true := by decide +kernel
theorem chk7 : chk 7 42 42 0 [fanL 7] = true := by decide +kernel
end Go.Proofs.Ytddcdopimpfhcaa
