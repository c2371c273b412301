/-
  No cell of these rows narrows 'for every input' (looked for: loops, veiled, ifaces, maps, wideKeys, modest, calm, conditions, laid).
  DERIVED. THE GIVEN ROWS OF THIS SEAT. 12 by the template 'for every input the law returns true; each argument reads behind the call as it read before'; 0 by the template 'total and deterministic' (their statements: YtnhbkopgbibcgaaTotals.lean).
  GIVEN WITH THE SEED: the statements are not yours to turn. If you find one false, say at which input.
  Laid BY PROGRAM, IN A SANDBOX (cutbox-rows.mjs): the forced cells as the released guide's own fill.sh prints them over the translation 5ffa61fc27a4b67f… (all of the seat's roots in one cut). By AI agents, Wed Nov 11 2026. No macro, syntax, notation, axiom, sorry.
-/
import Derived.Test.YtnhbkopgbibcgaaChecked
import GoSem.Claim
import GoSem.ClaimJoined
import GoSem.ClaimMapViews
import Derived.JoinedTies
import Derived.KernelRfl
namespace Go.Proofs.Ytnhbkopgbibcgaa
/- THE CELL 'sum', in the pinned program and in every row, IS THE sha256 OF THE DUMP (.gsa) THAT YtnhbkopgbibcgaaProg.lean LOADS. Nothing in Lean hashes anything: it is a label: what it is worth is what the hold of that sum in a sandbox is worth. -/
noncomputable def Try.pinned : Pinned := { name := "ytnhbkopgbibcgaa", sum := "5ffa61fc27a4b67f1f4c9434235e33476cc08768e4e5a84e238d29351b974029", checked := Try.checked }
namespace Rows
def none {H : Type} : Left H := { results := [], args := [] }

/-- 'drovewaylaw08.GrazeSames': WHATEVER THE INPUT: true; the input reads as it did. -/
def grazeSamesSpec : ChangeSpec := { name := "grazeSames", fn := fun _ => fun
  | [d1, d2, d3] => { results := [.lit (.bool true)], args := [d1, d2, d3] }
  | _ => none }
def grazeSamesRow : OpenClaim := { program := "ytnhbkopgbibcgaa", sum := "5ffa61fc27a4b67f1f4c9434235e33476cc08768e4e5a84e238d29351b974029", func := "droveway/drovewaylaw08.GrazeSames", spec := "grazeSames", inPlace := ["internal/abi.NoEscape", "internal/bytealg.MakeNoZero"], unfollowed := true, recurses := true, apart := false }
def GrazeSamesSaid : Prop := grazeSamesRow.holds Try.pinned (OpenSpec.ofChange grazeSamesSpec)

/-- ITS FALSE NEIGHBOUR: 'it returns false'. Refute it at one input. -/
def grazeSamesWrong : ChangeSpec := { name := "grazeSames", fn := fun _ => fun
  | [d1, d2, d3] => { results := [.lit (.bool false)], args := [d1, d2, d3] }
  | _ => none }
def GrazeSamesWrongFalsely : Prop := grazeSamesRow.holds Try.pinned (OpenSpec.ofChange grazeSamesWrong)

/-- 'drovewaylaw08.GrazeSieve': WHATEVER THE INPUT: true; the input reads as it did. -/
def grazeSieveSpec : ChangeSpec := { name := "grazeSieve", fn := fun _ => fun
  | [d1, d2, d3] => { results := [.lit (.bool true)], args := [d1, d2, d3] }
  | _ => none }
def grazeSieveRow : OpenClaim := { program := "ytnhbkopgbibcgaa", sum := "5ffa61fc27a4b67f1f4c9434235e33476cc08768e4e5a84e238d29351b974029", func := "droveway/drovewaylaw08.GrazeSieve", spec := "grazeSieve", inPlace := ["internal/abi.NoEscape", "internal/bytealg.MakeNoZero"], unfollowed := true, recurses := true, apart := false }
def GrazeSieveSaid : Prop := grazeSieveRow.holds Try.pinned (OpenSpec.ofChange grazeSieveSpec)

/-- ITS FALSE NEIGHBOUR: 'it returns false'. Refute it at one input. -/
def grazeSieveWrong : ChangeSpec := { name := "grazeSieve", fn := fun _ => fun
  | [d1, d2, d3] => { results := [.lit (.bool false)], args := [d1, d2, d3] }
  | _ => none }
def GrazeSieveWrongFalsely : Prop := grazeSieveRow.holds Try.pinned (OpenSpec.ofChange grazeSieveWrong)

/-- 'drovewaylaw08.GrazeDays': WHATEVER THE INPUT: true; the input reads as it did. -/
def grazeDaysSpec : ChangeSpec := { name := "grazeDays", fn := fun _ => fun
  | [d1, d2, d3, d4] => { results := [.lit (.bool true)], args := [d1, d2, d3, d4] }
  | _ => none }
def grazeDaysRow : OpenClaim := { program := "ytnhbkopgbibcgaa", sum := "5ffa61fc27a4b67f1f4c9434235e33476cc08768e4e5a84e238d29351b974029", func := "droveway/drovewaylaw08.GrazeDays", spec := "grazeDays", inPlace := ["internal/abi.NoEscape", "internal/bytealg.MakeNoZero"], unfollowed := true, recurses := true, apart := false }
def GrazeDaysSaid : Prop := grazeDaysRow.holds Try.pinned (OpenSpec.ofChange grazeDaysSpec)

/-- ITS FALSE NEIGHBOUR: 'it returns false'. Refute it at one input. -/
def grazeDaysWrong : ChangeSpec := { name := "grazeDays", fn := fun _ => fun
  | [d1, d2, d3, d4] => { results := [.lit (.bool false)], args := [d1, d2, d3, d4] }
  | _ => none }
def GrazeDaysWrongFalsely : Prop := grazeDaysRow.holds Try.pinned (OpenSpec.ofChange grazeDaysWrong)

/-- 'drovewaylaw08.GrazeToggles': WHATEVER THE INPUT: true; the input reads as it did. -/
def grazeTogglesSpec : ChangeSpec := { name := "grazeToggles", fn := fun _ => fun
  | [d1, d2, d3, d4] => { results := [.lit (.bool true)], args := [d1, d2, d3, d4] }
  | _ => none }
def grazeTogglesRow : OpenClaim := { program := "ytnhbkopgbibcgaa", sum := "5ffa61fc27a4b67f1f4c9434235e33476cc08768e4e5a84e238d29351b974029", func := "droveway/drovewaylaw08.GrazeToggles", spec := "grazeToggles", inPlace := ["internal/abi.NoEscape", "internal/bytealg.MakeNoZero"], unfollowed := true, recurses := true, apart := false }
def GrazeTogglesSaid : Prop := grazeTogglesRow.holds Try.pinned (OpenSpec.ofChange grazeTogglesSpec)

/-- ITS FALSE NEIGHBOUR: 'it returns false'. Refute it at one input. -/
def grazeTogglesWrong : ChangeSpec := { name := "grazeToggles", fn := fun _ => fun
  | [d1, d2, d3, d4] => { results := [.lit (.bool false)], args := [d1, d2, d3, d4] }
  | _ => none }
def GrazeTogglesWrongFalsely : Prop := grazeTogglesRow.holds Try.pinned (OpenSpec.ofChange grazeTogglesWrong)

/-- 'drovewaylaw08.GrazeTurns': WHATEVER THE INPUT: true; the input reads as it did. -/
def grazeTurnsSpec : ChangeSpec := { name := "grazeTurns", fn := fun _ => fun
  | [d1, d2, d3, d4, d5] => { results := [.lit (.bool true)], args := [d1, d2, d3, d4, d5] }
  | _ => none }
def grazeTurnsRow : OpenClaim := { program := "ytnhbkopgbibcgaa", sum := "5ffa61fc27a4b67f1f4c9434235e33476cc08768e4e5a84e238d29351b974029", func := "droveway/drovewaylaw08.GrazeTurns", spec := "grazeTurns", inPlace := ["internal/abi.NoEscape", "internal/bytealg.MakeNoZero"], unfollowed := true, recurses := true, apart := false }
def GrazeTurnsSaid : Prop := grazeTurnsRow.holds Try.pinned (OpenSpec.ofChange grazeTurnsSpec)

/-- ITS FALSE NEIGHBOUR: 'it returns false'. Refute it at one input. -/
def grazeTurnsWrong : ChangeSpec := { name := "grazeTurns", fn := fun _ => fun
  | [d1, d2, d3, d4, d5] => { results := [.lit (.bool false)], args := [d1, d2, d3, d4, d5] }
  | _ => none }
def GrazeTurnsWrongFalsely : Prop := grazeTurnsRow.holds Try.pinned (OpenSpec.ofChange grazeTurnsWrong)

/-- 'drovewaylaw08.GrazeTwice': WHATEVER THE INPUT: true; the input reads as it did. -/
def grazeTwiceSpec : ChangeSpec := { name := "grazeTwice", fn := fun _ => fun
  | [d1, d2, d3, d4, d5] => { results := [.lit (.bool true)], args := [d1, d2, d3, d4, d5] }
  | _ => none }
def grazeTwiceRow : OpenClaim := { program := "ytnhbkopgbibcgaa", sum := "5ffa61fc27a4b67f1f4c9434235e33476cc08768e4e5a84e238d29351b974029", func := "droveway/drovewaylaw08.GrazeTwice", spec := "grazeTwice", inPlace := ["internal/abi.NoEscape", "internal/bytealg.MakeNoZero"], unfollowed := true, recurses := true, apart := false }
def GrazeTwiceSaid : Prop := grazeTwiceRow.holds Try.pinned (OpenSpec.ofChange grazeTwiceSpec)

/-- ITS FALSE NEIGHBOUR: 'it returns false'. Refute it at one input. -/
def grazeTwiceWrong : ChangeSpec := { name := "grazeTwice", fn := fun _ => fun
  | [d1, d2, d3, d4, d5] => { results := [.lit (.bool false)], args := [d1, d2, d3, d4, d5] }
  | _ => none }
def GrazeTwiceWrongFalsely : Prop := grazeTwiceRow.holds Try.pinned (OpenSpec.ofChange grazeTwiceWrong)

/-- 'drovewaylaw08.GrazeRounds': WHATEVER THE INPUT: true; the input reads as it did. -/
def grazeRoundsSpec : ChangeSpec := { name := "grazeRounds", fn := fun _ => fun
  | [d1, d2, d3] => { results := [.lit (.bool true)], args := [d1, d2, d3] }
  | _ => none }
def grazeRoundsRow : OpenClaim := { program := "ytnhbkopgbibcgaa", sum := "5ffa61fc27a4b67f1f4c9434235e33476cc08768e4e5a84e238d29351b974029", func := "droveway/drovewaylaw08.GrazeRounds", spec := "grazeRounds", inPlace := ["internal/abi.NoEscape", "internal/bytealg.MakeNoZero"], unfollowed := true, recurses := true, apart := false }
def GrazeRoundsSaid : Prop := grazeRoundsRow.holds Try.pinned (OpenSpec.ofChange grazeRoundsSpec)

/-- ITS FALSE NEIGHBOUR: 'it returns false'. Refute it at one input. -/
def grazeRoundsWrong : ChangeSpec := { name := "grazeRounds", fn := fun _ => fun
  | [d1, d2, d3] => { results := [.lit (.bool false)], args := [d1, d2, d3] }
  | _ => none }
def GrazeRoundsWrongFalsely : Prop := grazeRoundsRow.holds Try.pinned (OpenSpec.ofChange grazeRoundsWrong)

/-- 'drovewaylaw08.GrazeMeans': WHATEVER THE INPUT: true; the input reads as it did. -/
def grazeMeansSpec : ChangeSpec := { name := "grazeMeans", fn := fun _ => fun
  | [d1, d2, d3] => { results := [.lit (.bool true)], args := [d1, d2, d3] }
  | _ => none }
def grazeMeansRow : OpenClaim := { program := "ytnhbkopgbibcgaa", sum := "5ffa61fc27a4b67f1f4c9434235e33476cc08768e4e5a84e238d29351b974029", func := "droveway/drovewaylaw08.GrazeMeans", spec := "grazeMeans", inPlace := ["internal/abi.NoEscape", "internal/bytealg.MakeNoZero"], unfollowed := true, recurses := true, apart := false }
def GrazeMeansSaid : Prop := grazeMeansRow.holds Try.pinned (OpenSpec.ofChange grazeMeansSpec)

/-- ITS FALSE NEIGHBOUR: 'it returns false'. Refute it at one input. -/
def grazeMeansWrong : ChangeSpec := { name := "grazeMeans", fn := fun _ => fun
  | [d1, d2, d3] => { results := [.lit (.bool false)], args := [d1, d2, d3] }
  | _ => none }
def GrazeMeansWrongFalsely : Prop := grazeMeansRow.holds Try.pinned (OpenSpec.ofChange grazeMeansWrong)

/-- 'drovewaylaw08.GrazePeriod': WHATEVER THE INPUT: true; the input reads as it did. -/
def grazePeriodSpec : ChangeSpec := { name := "grazePeriod", fn := fun _ => fun
  | [d1, d2, d3, d4, d5] => { results := [.lit (.bool true)], args := [d1, d2, d3, d4, d5] }
  | _ => none }
def grazePeriodRow : OpenClaim := { program := "ytnhbkopgbibcgaa", sum := "5ffa61fc27a4b67f1f4c9434235e33476cc08768e4e5a84e238d29351b974029", func := "droveway/drovewaylaw08.GrazePeriod", spec := "grazePeriod", inPlace := ["internal/abi.NoEscape", "internal/bytealg.MakeNoZero"], unfollowed := true, recurses := true, apart := false }
def GrazePeriodSaid : Prop := grazePeriodRow.holds Try.pinned (OpenSpec.ofChange grazePeriodSpec)

/-- ITS FALSE NEIGHBOUR: 'it returns false'. Refute it at one input. -/
def grazePeriodWrong : ChangeSpec := { name := "grazePeriod", fn := fun _ => fun
  | [d1, d2, d3, d4, d5] => { results := [.lit (.bool false)], args := [d1, d2, d3, d4, d5] }
  | _ => none }
def GrazePeriodWrongFalsely : Prop := grazePeriodRow.holds Try.pinned (OpenSpec.ofChange grazePeriodWrong)

/-- 'drovewaylaw08.GrazeSweeps': WHATEVER THE INPUT: true; the input reads as it did. -/
def grazeSweepsSpec : ChangeSpec := { name := "grazeSweeps", fn := fun _ => fun
  | [d1, d2, d3, d4] => { results := [.lit (.bool true)], args := [d1, d2, d3, d4] }
  | _ => none }
def grazeSweepsRow : OpenClaim := { program := "ytnhbkopgbibcgaa", sum := "5ffa61fc27a4b67f1f4c9434235e33476cc08768e4e5a84e238d29351b974029", func := "droveway/drovewaylaw08.GrazeSweeps", spec := "grazeSweeps", inPlace := ["internal/abi.NoEscape", "internal/bytealg.MakeNoZero", "internal/bytealg.CountString", "internal/bytealg.IndexByteString", "internal/bytealg.IndexString"], unfollowed := true, recurses := true, named := ["internal/bytealg.MaxLen"], apart := false }
def GrazeSweepsSaid : Prop := grazeSweepsRow.holds Try.pinned (OpenSpec.ofChange grazeSweepsSpec)

/-- ITS FALSE NEIGHBOUR: 'it returns false'. Refute it at one input. -/
def grazeSweepsWrong : ChangeSpec := { name := "grazeSweeps", fn := fun _ => fun
  | [d1, d2, d3, d4] => { results := [.lit (.bool false)], args := [d1, d2, d3, d4] }
  | _ => none }
def GrazeSweepsWrongFalsely : Prop := grazeSweepsRow.holds Try.pinned (OpenSpec.ofChange grazeSweepsWrong)

/-- 'drovewaylaw08.GrazeMoved': WHATEVER THE INPUT: true; the input reads as it did. -/
def grazeMovedSpec : ChangeSpec := { name := "grazeMoved", fn := fun _ => fun
  | [d1, d2, d3] => { results := [.lit (.bool true)], args := [d1, d2, d3] }
  | _ => none }
def grazeMovedRow : OpenClaim := { program := "ytnhbkopgbibcgaa", sum := "5ffa61fc27a4b67f1f4c9434235e33476cc08768e4e5a84e238d29351b974029", func := "droveway/drovewaylaw08.GrazeMoved", spec := "grazeMoved", inPlace := ["internal/abi.NoEscape", "internal/bytealg.MakeNoZero", "internal/bytealg.CountString", "internal/bytealg.IndexByteString", "internal/bytealg.IndexString"], unfollowed := true, recurses := true, named := ["internal/bytealg.MaxLen"], apart := false }
def GrazeMovedSaid : Prop := grazeMovedRow.holds Try.pinned (OpenSpec.ofChange grazeMovedSpec)

/-- ITS FALSE NEIGHBOUR: 'it returns false'. Refute it at one input. -/
def grazeMovedWrong : ChangeSpec := { name := "grazeMoved", fn := fun _ => fun
  | [d1, d2, d3] => { results := [.lit (.bool false)], args := [d1, d2, d3] }
  | _ => none }
def GrazeMovedWrongFalsely : Prop := grazeMovedRow.holds Try.pinned (OpenSpec.ofChange grazeMovedWrong)

/-- 'drovewaylaw08.GrazeWords': WHATEVER THE INPUT: true; the input reads as it did. -/
def grazeWordsSpec : ChangeSpec := { name := "grazeWords", fn := fun _ => fun
  | [d1, d2, d3] => { results := [.lit (.bool true)], args := [d1, d2, d3] }
  | _ => none }
def grazeWordsRow : OpenClaim := { program := "ytnhbkopgbibcgaa", sum := "5ffa61fc27a4b67f1f4c9434235e33476cc08768e4e5a84e238d29351b974029", func := "droveway/drovewaylaw08.GrazeWords", spec := "grazeWords", inPlace := ["internal/abi.NoEscape", "internal/bytealg.MakeNoZero", "internal/bytealg.CountString", "internal/bytealg.IndexByteString", "internal/bytealg.IndexString"], unfollowed := true, recurses := true, named := ["internal/bytealg.MaxLen"], apart := false }
def GrazeWordsSaid : Prop := grazeWordsRow.holds Try.pinned (OpenSpec.ofChange grazeWordsSpec)

/-- ITS FALSE NEIGHBOUR: 'it returns false'. Refute it at one input. -/
def grazeWordsWrong : ChangeSpec := { name := "grazeWords", fn := fun _ => fun
  | [d1, d2, d3] => { results := [.lit (.bool false)], args := [d1, d2, d3] }
  | _ => none }
def GrazeWordsWrongFalsely : Prop := grazeWordsRow.holds Try.pinned (OpenSpec.ofChange grazeWordsWrong)

/- THE SECOND FORM. 'bulk': how many values and letters a reading holds, each counted each time it is reached (what is shared counts as often as it is met; a slice's spare places count too). A statement '..UptoSaid' is the law's where the arguments, and the package variables that the reading takes, are together of bulk at most 1048576: NARROWER than '..Said'. Prove '..Said' where nothing that the law and all that it calls make is longer than what came in: it says more and counts as full. Else prove '..UptoSaid'. A law counts once. -/
mutual
def uptoBulk {H : Type} : DataW H → Nat
  | .lit (.string bytes) => bytes.length + 1
  | .lit _ => 1
  | .nil => 1
  | .ptr d => uptoBulk d + 1
  | .slice elems spare => uptoBulkAll elems + uptoBulkAll spare + 1
  | .agg parts => uptoBulkAll parts + 1
  | .iface _ d => uptoBulk d + 1
  | .map entries => uptoBulkEntries entries + 1
  | .held _ => 1
def uptoBulkAll {H : Type} : List (DataW H) → Nat
  | [] => 0
  | d :: r => uptoBulk d + uptoBulkAll r
def uptoBulkEntries {H : Type} : List (Lit × DataW H) → Nat
  | [] => 0
  | x :: r => uptoBulkEntry x + uptoBulkEntries r
def uptoBulkEntry {H : Type} : Lit × DataW H → Nat
  | (.string bytes, d) => bytes.length + uptoBulk d + 1
  | (_, d) => uptoBulk d + 1
 end
def uptoSmall : (H : Type) → List (DataW H) → Bool := fun _ ds => decide (uptoBulkAll ds ≤ 1048576)
def OpenSpec.upto (s : _root_.Go.ChangeSpec) : _root_.Go.OpenSpec := { _root_.Go.OpenSpec.ofChange s with cond := some uptoSmall }

/-- 'drovewaylaw08.GrazeSames', WHERE WHAT IT READS IS OF BULK AT MOST 1048576: true; the input reads as it did. -/
def grazeSamesUptoRow : OpenClaim := { program := "ytnhbkopgbibcgaa", sum := "5ffa61fc27a4b67f1f4c9434235e33476cc08768e4e5a84e238d29351b974029", func := "droveway/drovewaylaw08.GrazeSames", spec := "grazeSames", inPlace := ["internal/abi.NoEscape", "internal/bytealg.MakeNoZero"], unfollowed := true, recurses := true, apart := false, narrowed := true }
def GrazeSamesUptoSaid : Prop := grazeSamesUptoRow.holds Try.pinned (OpenSpec.upto grazeSamesSpec)

/-- 'drovewaylaw08.GrazeSieve', WHERE WHAT IT READS IS OF BULK AT MOST 1048576: true; the input reads as it did. -/
def grazeSieveUptoRow : OpenClaim := { program := "ytnhbkopgbibcgaa", sum := "5ffa61fc27a4b67f1f4c9434235e33476cc08768e4e5a84e238d29351b974029", func := "droveway/drovewaylaw08.GrazeSieve", spec := "grazeSieve", inPlace := ["internal/abi.NoEscape", "internal/bytealg.MakeNoZero"], unfollowed := true, recurses := true, apart := false, narrowed := true }
def GrazeSieveUptoSaid : Prop := grazeSieveUptoRow.holds Try.pinned (OpenSpec.upto grazeSieveSpec)

/-- 'drovewaylaw08.GrazeDays', WHERE WHAT IT READS IS OF BULK AT MOST 1048576: true; the input reads as it did. -/
def grazeDaysUptoRow : OpenClaim := { program := "ytnhbkopgbibcgaa", sum := "5ffa61fc27a4b67f1f4c9434235e33476cc08768e4e5a84e238d29351b974029", func := "droveway/drovewaylaw08.GrazeDays", spec := "grazeDays", inPlace := ["internal/abi.NoEscape", "internal/bytealg.MakeNoZero"], unfollowed := true, recurses := true, apart := false, narrowed := true }
def GrazeDaysUptoSaid : Prop := grazeDaysUptoRow.holds Try.pinned (OpenSpec.upto grazeDaysSpec)

/-- 'drovewaylaw08.GrazeToggles', WHERE WHAT IT READS IS OF BULK AT MOST 1048576: true; the input reads as it did. -/
def grazeTogglesUptoRow : OpenClaim := { program := "ytnhbkopgbibcgaa", sum := "5ffa61fc27a4b67f1f4c9434235e33476cc08768e4e5a84e238d29351b974029", func := "droveway/drovewaylaw08.GrazeToggles", spec := "grazeToggles", inPlace := ["internal/abi.NoEscape", "internal/bytealg.MakeNoZero"], unfollowed := true, recurses := true, apart := false, narrowed := true }
def GrazeTogglesUptoSaid : Prop := grazeTogglesUptoRow.holds Try.pinned (OpenSpec.upto grazeTogglesSpec)

/-- 'drovewaylaw08.GrazeTurns', WHERE WHAT IT READS IS OF BULK AT MOST 1048576: true; the input reads as it did. -/
def grazeTurnsUptoRow : OpenClaim := { program := "ytnhbkopgbibcgaa", sum := "5ffa61fc27a4b67f1f4c9434235e33476cc08768e4e5a84e238d29351b974029", func := "droveway/drovewaylaw08.GrazeTurns", spec := "grazeTurns", inPlace := ["internal/abi.NoEscape", "internal/bytealg.MakeNoZero"], unfollowed := true, recurses := true, apart := false, narrowed := true }
def GrazeTurnsUptoSaid : Prop := grazeTurnsUptoRow.holds Try.pinned (OpenSpec.upto grazeTurnsSpec)

/-- 'drovewaylaw08.GrazeTwice', WHERE WHAT IT READS IS OF BULK AT MOST 1048576: true; the input reads as it did. -/
def grazeTwiceUptoRow : OpenClaim := { program := "ytnhbkopgbibcgaa", sum := "5ffa61fc27a4b67f1f4c9434235e33476cc08768e4e5a84e238d29351b974029", func := "droveway/drovewaylaw08.GrazeTwice", spec := "grazeTwice", inPlace := ["internal/abi.NoEscape", "internal/bytealg.MakeNoZero"], unfollowed := true, recurses := true, apart := false, narrowed := true }
def GrazeTwiceUptoSaid : Prop := grazeTwiceUptoRow.holds Try.pinned (OpenSpec.upto grazeTwiceSpec)

/-- 'drovewaylaw08.GrazeRounds', WHERE WHAT IT READS IS OF BULK AT MOST 1048576: true; the input reads as it did. -/
def grazeRoundsUptoRow : OpenClaim := { program := "ytnhbkopgbibcgaa", sum := "5ffa61fc27a4b67f1f4c9434235e33476cc08768e4e5a84e238d29351b974029", func := "droveway/drovewaylaw08.GrazeRounds", spec := "grazeRounds", inPlace := ["internal/abi.NoEscape", "internal/bytealg.MakeNoZero"], unfollowed := true, recurses := true, apart := false, narrowed := true }
def GrazeRoundsUptoSaid : Prop := grazeRoundsUptoRow.holds Try.pinned (OpenSpec.upto grazeRoundsSpec)

/-- 'drovewaylaw08.GrazeMeans', WHERE WHAT IT READS IS OF BULK AT MOST 1048576: true; the input reads as it did. -/
def grazeMeansUptoRow : OpenClaim := { program := "ytnhbkopgbibcgaa", sum := "5ffa61fc27a4b67f1f4c9434235e33476cc08768e4e5a84e238d29351b974029", func := "droveway/drovewaylaw08.GrazeMeans", spec := "grazeMeans", inPlace := ["internal/abi.NoEscape", "internal/bytealg.MakeNoZero"], unfollowed := true, recurses := true, apart := false, narrowed := true }
def GrazeMeansUptoSaid : Prop := grazeMeansUptoRow.holds Try.pinned (OpenSpec.upto grazeMeansSpec)

/-- 'drovewaylaw08.GrazePeriod', WHERE WHAT IT READS IS OF BULK AT MOST 1048576: true; the input reads as it did. -/
def grazePeriodUptoRow : OpenClaim := { program := "ytnhbkopgbibcgaa", sum := "5ffa61fc27a4b67f1f4c9434235e33476cc08768e4e5a84e238d29351b974029", func := "droveway/drovewaylaw08.GrazePeriod", spec := "grazePeriod", inPlace := ["internal/abi.NoEscape", "internal/bytealg.MakeNoZero"], unfollowed := true, recurses := true, apart := false, narrowed := true }
def GrazePeriodUptoSaid : Prop := grazePeriodUptoRow.holds Try.pinned (OpenSpec.upto grazePeriodSpec)

/-- 'drovewaylaw08.GrazeSweeps', WHERE WHAT IT READS IS OF BULK AT MOST 1048576: true; the input reads as it did. -/
def grazeSweepsUptoRow : OpenClaim := { program := "ytnhbkopgbibcgaa", sum := "5ffa61fc27a4b67f1f4c9434235e33476cc08768e4e5a84e238d29351b974029", func := "droveway/drovewaylaw08.GrazeSweeps", spec := "grazeSweeps", inPlace := ["internal/abi.NoEscape", "internal/bytealg.MakeNoZero", "internal/bytealg.CountString", "internal/bytealg.IndexByteString", "internal/bytealg.IndexString"], unfollowed := true, recurses := true, named := ["internal/bytealg.MaxLen"], apart := false, narrowed := true }
def GrazeSweepsUptoSaid : Prop := grazeSweepsUptoRow.holds Try.pinned (OpenSpec.upto grazeSweepsSpec)

/-- 'drovewaylaw08.GrazeMoved', WHERE WHAT IT READS IS OF BULK AT MOST 1048576: true; the input reads as it did. -/
def grazeMovedUptoRow : OpenClaim := { program := "ytnhbkopgbibcgaa", sum := "5ffa61fc27a4b67f1f4c9434235e33476cc08768e4e5a84e238d29351b974029", func := "droveway/drovewaylaw08.GrazeMoved", spec := "grazeMoved", inPlace := ["internal/abi.NoEscape", "internal/bytealg.MakeNoZero", "internal/bytealg.CountString", "internal/bytealg.IndexByteString", "internal/bytealg.IndexString"], unfollowed := true, recurses := true, named := ["internal/bytealg.MaxLen"], apart := false, narrowed := true }
def GrazeMovedUptoSaid : Prop := grazeMovedUptoRow.holds Try.pinned (OpenSpec.upto grazeMovedSpec)

/-- 'drovewaylaw08.GrazeWords', WHERE WHAT IT READS IS OF BULK AT MOST 1048576: true; the input reads as it did. -/
def grazeWordsUptoRow : OpenClaim := { program := "ytnhbkopgbibcgaa", sum := "5ffa61fc27a4b67f1f4c9434235e33476cc08768e4e5a84e238d29351b974029", func := "droveway/drovewaylaw08.GrazeWords", spec := "grazeWords", inPlace := ["internal/abi.NoEscape", "internal/bytealg.MakeNoZero", "internal/bytealg.CountString", "internal/bytealg.IndexByteString", "internal/bytealg.IndexString"], unfollowed := true, recurses := true, named := ["internal/bytealg.MaxLen"], apart := false, narrowed := true }
def GrazeWordsUptoSaid : Prop := grazeWordsUptoRow.holds Try.pinned (OpenSpec.upto grazeWordsSpec)

end Rows
end Go.Proofs.Ytnhbkopgbibcgaa
