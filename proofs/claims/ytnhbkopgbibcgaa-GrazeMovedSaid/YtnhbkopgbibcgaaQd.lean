/- A sweep, quickly; words of states. -/
import Derived.Test.YtnhbkopgbibcgaaHj
import Derived.Test.YtnhbkopgbibcgaaHm
import Derived.Test.YtnhbkopgbibcgaaGh
namespace Go.Proofs.Ytnhbkopgbibcgaa
/-- A sweep: either all rows are one shorter, or the full row comes ahead of all but the last. -/
def swF (m : Nat) (l : List Int) : List Int := if 0 < l.getD (l.length - 1) 0 then l.map (· - 1) else (m : Int) :: l.dropLast
/-- What is looked at of each state: its word. -/
def movedB (n m : Nat) (l : List Int) : Bool := decide (ofP n (wordP m l) = l) && wordB n m (wordP m l) && decide (wordP m (swF m l) = (wordP m l).drop 1 ++ (wordP m l).take 1)
end Go.Proofs.Ytnhbkopgbibcgaa
