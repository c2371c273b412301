/-
  No cell of these rows narrows 'for every input' (looked for: loops, veiled, ifaces, maps, wideKeys, modest, calm, conditions, laid).
  DERIVED. THE GIVEN ROWS OF THIS SEAT. 13 by the template 'for every input the law returns true; each argument reads behind the call as it read before'; 0 by the template 'total and deterministic' (their statements: YtbpmiphipjkdlaaTotals.lean).
  GIVEN WITH THE SEED: the statements are not yours to turn. If you find one false, say at which input.
  Laid BY PROGRAM, IN A SANDBOX (cutbox-rows.mjs): the forced cells as the released guide's own fill.sh prints them over the translation ace3f1feee9bcf7b… (all of the seat's roots in one cut). By AI agents, Wed Nov 11 2026. No macro, syntax, notation, axiom, sorry.
-/
import Derived.Test.YtbpmiphipjkdlaaChecked
import GoSem.Claim
import GoSem.ClaimJoined
import GoSem.ClaimMapViews
import Derived.JoinedTies
import Derived.KernelRfl
namespace Go.Proofs.Ytbpmiphipjkdlaa
/- THE CELL 'sum', in the pinned program and in every row, IS THE sha256 OF THE DUMP (.gsa) THAT YtbpmiphipjkdlaaProg.lean LOADS. Nothing in Lean hashes anything: it is a label: what it is worth is what the hold of that sum in a sandbox is worth. -/
noncomputable def Try.pinned : Pinned := { name := "ytbpmiphipjkdlaa", sum := "ace3f1feee9bcf7bd25be50bbb699c96fd861be69ba70eef9fcc4b652114c305", checked := Try.checked }
namespace Rows
def none {H : Type} : Left H := { results := [], args := [] }

/-- 'drovewaylaw01.PensGrows': WHATEVER THE INPUT: true; the input reads as it did. -/
def pensGrowsSpec : ChangeSpec := { name := "pensGrows", fn := fun _ => fun
  | [d1, d2] => { results := [.lit (.bool true)], args := [d1, d2] }
  | _ => none }
def pensGrowsRow : OpenClaim := { program := "ytbpmiphipjkdlaa", sum := "ace3f1feee9bcf7bd25be50bbb699c96fd861be69ba70eef9fcc4b652114c305", func := "droveway/drovewaylaw01.PensGrows", spec := "pensGrows", unfollowed := true, recurses := true, apart := false }
def PensGrowsSaid : Prop := pensGrowsRow.holds Try.pinned (OpenSpec.ofChange pensGrowsSpec)

/-- ITS FALSE NEIGHBOUR: 'it returns false'. Refute it at one input. -/
def pensGrowsWrong : ChangeSpec := { name := "pensGrows", fn := fun _ => fun
  | [d1, d2] => { results := [.lit (.bool false)], args := [d1, d2] }
  | _ => none }
def PensGrowsWrongFalsely : Prop := pensGrowsRow.holds Try.pinned (OpenSpec.ofChange pensGrowsWrong)

/-- 'drovewaylaw01.PensEhrhart': WHATEVER THE INPUT: true; the input reads as it did. -/
def pensEhrhartSpec : ChangeSpec := { name := "pensEhrhart", fn := fun _ => fun
  | [d1, d2] => { results := [.lit (.bool true)], args := [d1, d2] }
  | _ => none }
def pensEhrhartRow : OpenClaim := { program := "ytbpmiphipjkdlaa", sum := "ace3f1feee9bcf7bd25be50bbb699c96fd861be69ba70eef9fcc4b652114c305", func := "droveway/drovewaylaw01.PensEhrhart", spec := "pensEhrhart", unfollowed := true, recurses := true, apart := false }
def PensEhrhartSaid : Prop := pensEhrhartRow.holds Try.pinned (OpenSpec.ofChange pensEhrhartSpec)

/-- ITS FALSE NEIGHBOUR: 'it returns false'. Refute it at one input. -/
def pensEhrhartWrong : ChangeSpec := { name := "pensEhrhart", fn := fun _ => fun
  | [d1, d2] => { results := [.lit (.bool false)], args := [d1, d2] }
  | _ => none }
def PensEhrhartWrongFalsely : Prop := pensEhrhartRow.holds Try.pinned (OpenSpec.ofChange pensEhrhartWrong)

/-- 'drovewaylaw01.PensTwelve': WHATEVER THE INPUT: true; the input reads as it did. -/
def pensTwelveSpec : ChangeSpec := { name := "pensTwelve", fn := fun _ => fun
  | [d] => { results := [.lit (.bool true)], args := [d] }
  | _ => none }
def pensTwelveRow : OpenClaim := { program := "ytbpmiphipjkdlaa", sum := "ace3f1feee9bcf7bd25be50bbb699c96fd861be69ba70eef9fcc4b652114c305", func := "droveway/drovewaylaw01.PensTwelve", spec := "pensTwelve", unfollowed := true, recurses := true, apart := false }
def PensTwelveSaid : Prop := pensTwelveRow.holds Try.pinned (OpenSpec.ofChange pensTwelveSpec)

/-- ITS FALSE NEIGHBOUR: 'it returns false'. Refute it at one input. -/
def pensTwelveWrong : ChangeSpec := { name := "pensTwelve", fn := fun _ => fun
  | [d] => { results := [.lit (.bool false)], args := [d] }
  | _ => none }
def PensTwelveWrongFalsely : Prop := pensTwelveRow.holds Try.pinned (OpenSpec.ofChange pensTwelveWrong)

/-- 'drovewaylaw01.PensPick': WHATEVER THE INPUT: true; the input reads as it did. -/
def pensPickSpec : ChangeSpec := { name := "pensPick", fn := fun _ => fun
  | [d] => { results := [.lit (.bool true)], args := [d] }
  | _ => none }
def pensPickRow : OpenClaim := { program := "ytbpmiphipjkdlaa", sum := "ace3f1feee9bcf7bd25be50bbb699c96fd861be69ba70eef9fcc4b652114c305", func := "droveway/drovewaylaw01.PensPick", spec := "pensPick", unfollowed := true, recurses := true, apart := false }
def PensPickSaid : Prop := pensPickRow.holds Try.pinned (OpenSpec.ofChange pensPickSpec)

/-- ITS FALSE NEIGHBOUR: 'it returns false'. Refute it at one input. -/
def pensPickWrong : ChangeSpec := { name := "pensPick", fn := fun _ => fun
  | [d] => { results := [.lit (.bool false)], args := [d] }
  | _ => none }
def PensPickWrongFalsely : Prop := pensPickRow.holds Try.pinned (OpenSpec.ofChange pensPickWrong)

/-- 'drovewaylaw01.PensScott': WHATEVER THE INPUT: true; the input reads as it did. -/
def pensScottSpec : ChangeSpec := { name := "pensScott", fn := fun _ => fun
  | [d] => { results := [.lit (.bool true)], args := [d] }
  | _ => none }
def pensScottRow : OpenClaim := { program := "ytbpmiphipjkdlaa", sum := "ace3f1feee9bcf7bd25be50bbb699c96fd861be69ba70eef9fcc4b652114c305", func := "droveway/drovewaylaw01.PensScott", spec := "pensScott", unfollowed := true, recurses := true, apart := false }
def PensScottSaid : Prop := pensScottRow.holds Try.pinned (OpenSpec.ofChange pensScottSpec)

/-- ITS FALSE NEIGHBOUR: 'it returns false'. Refute it at one input. -/
def pensScottWrong : ChangeSpec := { name := "pensScott", fn := fun _ => fun
  | [d] => { results := [.lit (.bool false)], args := [d] }
  | _ => none }
def PensScottWrongFalsely : Prop := pensScottRow.holds Try.pinned (OpenSpec.ofChange pensScottWrong)

/-- 'drovewaylaw01.PensCounts': WHATEVER THE INPUT: true; the input reads as it did. -/
def pensCountsSpec : ChangeSpec := { name := "pensCounts", fn := fun _ => fun
  | [d1, d2] => { results := [.lit (.bool true)], args := [d1, d2] }
  | _ => none }
def pensCountsRow : OpenClaim := { program := "ytbpmiphipjkdlaa", sum := "ace3f1feee9bcf7bd25be50bbb699c96fd861be69ba70eef9fcc4b652114c305", func := "droveway/drovewaylaw01.PensCounts", spec := "pensCounts", unfollowed := true, recurses := true, apart := false }
def PensCountsSaid : Prop := pensCountsRow.holds Try.pinned (OpenSpec.ofChange pensCountsSpec)

/-- ITS FALSE NEIGHBOUR: 'it returns false'. Refute it at one input. -/
def pensCountsWrong : ChangeSpec := { name := "pensCounts", fn := fun _ => fun
  | [d1, d2] => { results := [.lit (.bool false)], args := [d1, d2] }
  | _ => none }
def PensCountsWrongFalsely : Prop := pensCountsRow.holds Try.pinned (OpenSpec.ofChange pensCountsWrong)

/-- 'drovewaylaw01.PensPens': WHATEVER THE INPUT: true; the input reads as it did. -/
def pensPensSpec : ChangeSpec := { name := "pensPens", fn := fun _ => fun
  | [d] => { results := [.lit (.bool true)], args := [d] }
  | _ => none }
def pensPensRow : OpenClaim := { program := "ytbpmiphipjkdlaa", sum := "ace3f1feee9bcf7bd25be50bbb699c96fd861be69ba70eef9fcc4b652114c305", func := "droveway/drovewaylaw01.PensPens", spec := "pensPens", unfollowed := true, recurses := true, apart := false }
def PensPensSaid : Prop := pensPensRow.holds Try.pinned (OpenSpec.ofChange pensPensSpec)

/-- ITS FALSE NEIGHBOUR: 'it returns false'. Refute it at one input. -/
def pensPensWrong : ChangeSpec := { name := "pensPens", fn := fun _ => fun
  | [d] => { results := [.lit (.bool false)], args := [d] }
  | _ => none }
def PensPensWrongFalsely : Prop := pensPensRow.holds Try.pinned (OpenSpec.ofChange pensPensWrong)

/-- 'drovewaylaw01.PensOpposites': WHATEVER THE INPUT: true; the input reads as it did. -/
def pensOppositesSpec : ChangeSpec := { name := "pensOpposites", fn := fun _ => fun
  | [d1, d2] => { results := [.lit (.bool true)], args := [d1, d2] }
  | _ => none }
def pensOppositesRow : OpenClaim := { program := "ytbpmiphipjkdlaa", sum := "ace3f1feee9bcf7bd25be50bbb699c96fd861be69ba70eef9fcc4b652114c305", func := "droveway/drovewaylaw01.PensOpposites", spec := "pensOpposites", unfollowed := true, recurses := true, apart := false }
def PensOppositesSaid : Prop := pensOppositesRow.holds Try.pinned (OpenSpec.ofChange pensOppositesSpec)

/-- ITS FALSE NEIGHBOUR: 'it returns false'. Refute it at one input. -/
def pensOppositesWrong : ChangeSpec := { name := "pensOpposites", fn := fun _ => fun
  | [d1, d2] => { results := [.lit (.bool false)], args := [d1, d2] }
  | _ => none }
def PensOppositesWrongFalsely : Prop := pensOppositesRow.holds Try.pinned (OpenSpec.ofChange pensOppositesWrong)

/-- 'drovewaylaw01.PensSheared': WHATEVER THE INPUT: true; the input reads as it did. -/
def pensShearedSpec : ChangeSpec := { name := "pensSheared", fn := fun _ => fun
  | [d1, d2, d3] => { results := [.lit (.bool true)], args := [d1, d2, d3] }
  | _ => none }
def pensShearedRow : OpenClaim := { program := "ytbpmiphipjkdlaa", sum := "ace3f1feee9bcf7bd25be50bbb699c96fd861be69ba70eef9fcc4b652114c305", func := "droveway/drovewaylaw01.PensSheared", spec := "pensSheared", unfollowed := true, recurses := true, apart := false }
def PensShearedSaid : Prop := pensShearedRow.holds Try.pinned (OpenSpec.ofChange pensShearedSpec)

/-- ITS FALSE NEIGHBOUR: 'it returns false'. Refute it at one input. -/
def pensShearedWrong : ChangeSpec := { name := "pensSheared", fn := fun _ => fun
  | [d1, d2, d3] => { results := [.lit (.bool false)], args := [d1, d2, d3] }
  | _ => none }
def PensShearedWrongFalsely : Prop := pensShearedRow.holds Try.pinned (OpenSpec.ofChange pensShearedWrong)

/-- 'drovewaylaw01.PensSplits': WHATEVER THE INPUT: true; the input reads as it did. -/
def pensSplitsSpec : ChangeSpec := { name := "pensSplits", fn := fun _ => fun
  | [d1, d2] => { results := [.lit (.bool true)], args := [d1, d2] }
  | _ => none }
def pensSplitsRow : OpenClaim := { program := "ytbpmiphipjkdlaa", sum := "ace3f1feee9bcf7bd25be50bbb699c96fd861be69ba70eef9fcc4b652114c305", func := "droveway/drovewaylaw01.PensSplits", spec := "pensSplits", unfollowed := true, recurses := true, apart := false }
def PensSplitsSaid : Prop := pensSplitsRow.holds Try.pinned (OpenSpec.ofChange pensSplitsSpec)

/-- ITS FALSE NEIGHBOUR: 'it returns false'. Refute it at one input. -/
def pensSplitsWrong : ChangeSpec := { name := "pensSplits", fn := fun _ => fun
  | [d1, d2] => { results := [.lit (.bool false)], args := [d1, d2] }
  | _ => none }
def PensSplitsWrongFalsely : Prop := pensSplitsRow.holds Try.pinned (OpenSpec.ofChange pensSplitsWrong)

/-- 'drovewaylaw01.PensSmall': WHATEVER THE INPUT: true; the input reads as it did. -/
def pensSmallSpec : ChangeSpec := { name := "pensSmall", fn := fun _ => fun
  | [d1, d2] => { results := [.lit (.bool true)], args := [d1, d2] }
  | _ => none }
def pensSmallRow : OpenClaim := { program := "ytbpmiphipjkdlaa", sum := "ace3f1feee9bcf7bd25be50bbb699c96fd861be69ba70eef9fcc4b652114c305", func := "droveway/drovewaylaw01.PensSmall", spec := "pensSmall", unfollowed := true, recurses := true, apart := false }
def PensSmallSaid : Prop := pensSmallRow.holds Try.pinned (OpenSpec.ofChange pensSmallSpec)

/-- ITS FALSE NEIGHBOUR: 'it returns false'. Refute it at one input. -/
def pensSmallWrong : ChangeSpec := { name := "pensSmall", fn := fun _ => fun
  | [d1, d2] => { results := [.lit (.bool false)], args := [d1, d2] }
  | _ => none }
def PensSmallWrongFalsely : Prop := pensSmallRow.holds Try.pinned (OpenSpec.ofChange pensSmallWrong)

/-- 'drovewaylaw01.PensHulls': WHATEVER THE INPUT: true; the input reads as it did. -/
def pensHullsSpec : ChangeSpec := { name := "pensHulls", fn := fun _ => fun
  | [d] => { results := [.lit (.bool true)], args := [d] }
  | _ => none }
def pensHullsRow : OpenClaim := { program := "ytbpmiphipjkdlaa", sum := "ace3f1feee9bcf7bd25be50bbb699c96fd861be69ba70eef9fcc4b652114c305", func := "droveway/drovewaylaw01.PensHulls", spec := "pensHulls", unfollowed := true, recurses := true, apart := false }
def PensHullsSaid : Prop := pensHullsRow.holds Try.pinned (OpenSpec.ofChange pensHullsSpec)

/-- ITS FALSE NEIGHBOUR: 'it returns false'. Refute it at one input. -/
def pensHullsWrong : ChangeSpec := { name := "pensHulls", fn := fun _ => fun
  | [d] => { results := [.lit (.bool false)], args := [d] }
  | _ => none }
def PensHullsWrongFalsely : Prop := pensHullsRow.holds Try.pinned (OpenSpec.ofChange pensHullsWrong)

/-- 'drovewaylaw01.PensHull': WHATEVER THE INPUT: true; the input reads as it did. -/
def pensHullSpec : ChangeSpec := { name := "pensHull", fn := fun _ => fun
  | [d] => { results := [.lit (.bool true)], args := [d] }
  | _ => none }
def pensHullRow : OpenClaim := { program := "ytbpmiphipjkdlaa", sum := "ace3f1feee9bcf7bd25be50bbb699c96fd861be69ba70eef9fcc4b652114c305", func := "droveway/drovewaylaw01.PensHull", spec := "pensHull", unfollowed := true, recurses := true, apart := false }
def PensHullSaid : Prop := pensHullRow.holds Try.pinned (OpenSpec.ofChange pensHullSpec)

/-- ITS FALSE NEIGHBOUR: 'it returns false'. Refute it at one input. -/
def pensHullWrong : ChangeSpec := { name := "pensHull", fn := fun _ => fun
  | [d] => { results := [.lit (.bool false)], args := [d] }
  | _ => none }
def PensHullWrongFalsely : Prop := pensHullRow.holds Try.pinned (OpenSpec.ofChange pensHullWrong)

/- THE SECOND FORM. 'bulk': how many values and letters a reading holds, each counted each time it is reached (what is shared counts as often as it is met; a slice's spare places count too). A statement '..UptoSaid' is the law's where the arguments, and the package variables that the reading takes, are together of bulk at most 1048576: NARROWER than '..Said'. Prove '..Said' where nothing that the law and all that it calls make is longer than what came in: it says more and counts as full. Else prove '..UptoSaid'. A law counts once. -/
mutual
def uptoBulk {H : Type} : DataW H → Nat
  | .lit (.string bytes) => bytes.length + 1
  | .lit _ => 1
  | .nil => 1
  | .ptr d => uptoBulk d + 1
  | .slice elems spare => uptoBulkAll elems + uptoBulkAll spare + 1
  | .agg parts => uptoBulkAll parts + 1
  | .iface _ d => uptoBulk d + 1
  | .map entries => uptoBulkEntries entries + 1
  | .held _ => 1
def uptoBulkAll {H : Type} : List (DataW H) → Nat
  | [] => 0
  | d :: r => uptoBulk d + uptoBulkAll r
def uptoBulkEntries {H : Type} : List (Lit × DataW H) → Nat
  | [] => 0
  | x :: r => uptoBulkEntry x + uptoBulkEntries r
def uptoBulkEntry {H : Type} : Lit × DataW H → Nat
  | (.string bytes, d) => bytes.length + uptoBulk d + 1
  | (_, d) => uptoBulk d + 1
 end
def uptoSmall : (H : Type) → List (DataW H) → Bool := fun _ ds => decide (uptoBulkAll ds ≤ 1048576)
def OpenSpec.upto (s : _root_.Go.ChangeSpec) : _root_.Go.OpenSpec := { _root_.Go.OpenSpec.ofChange s with cond := some uptoSmall }

/-- 'drovewaylaw01.PensGrows', WHERE WHAT IT READS IS OF BULK AT MOST 1048576: true; the input reads as it did. -/
def pensGrowsUptoRow : OpenClaim := { program := "ytbpmiphipjkdlaa", sum := "ace3f1feee9bcf7bd25be50bbb699c96fd861be69ba70eef9fcc4b652114c305", func := "droveway/drovewaylaw01.PensGrows", spec := "pensGrows", unfollowed := true, recurses := true, apart := false, narrowed := true }
def PensGrowsUptoSaid : Prop := pensGrowsUptoRow.holds Try.pinned (OpenSpec.upto pensGrowsSpec)

/-- 'drovewaylaw01.PensEhrhart', WHERE WHAT IT READS IS OF BULK AT MOST 1048576: true; the input reads as it did. -/
def pensEhrhartUptoRow : OpenClaim := { program := "ytbpmiphipjkdlaa", sum := "ace3f1feee9bcf7bd25be50bbb699c96fd861be69ba70eef9fcc4b652114c305", func := "droveway/drovewaylaw01.PensEhrhart", spec := "pensEhrhart", unfollowed := true, recurses := true, apart := false, narrowed := true }
def PensEhrhartUptoSaid : Prop := pensEhrhartUptoRow.holds Try.pinned (OpenSpec.upto pensEhrhartSpec)

/-- 'drovewaylaw01.PensTwelve', WHERE WHAT IT READS IS OF BULK AT MOST 1048576: true; the input reads as it did. -/
def pensTwelveUptoRow : OpenClaim := { program := "ytbpmiphipjkdlaa", sum := "ace3f1feee9bcf7bd25be50bbb699c96fd861be69ba70eef9fcc4b652114c305", func := "droveway/drovewaylaw01.PensTwelve", spec := "pensTwelve", unfollowed := true, recurses := true, apart := false, narrowed := true }
def PensTwelveUptoSaid : Prop := pensTwelveUptoRow.holds Try.pinned (OpenSpec.upto pensTwelveSpec)

/-- 'drovewaylaw01.PensPick', WHERE WHAT IT READS IS OF BULK AT MOST 1048576: true; the input reads as it did. -/
def pensPickUptoRow : OpenClaim := { program := "ytbpmiphipjkdlaa", sum := "ace3f1feee9bcf7bd25be50bbb699c96fd861be69ba70eef9fcc4b652114c305", func := "droveway/drovewaylaw01.PensPick", spec := "pensPick", unfollowed := true, recurses := true, apart := false, narrowed := true }
def PensPickUptoSaid : Prop := pensPickUptoRow.holds Try.pinned (OpenSpec.upto pensPickSpec)

/-- 'drovewaylaw01.PensScott', WHERE WHAT IT READS IS OF BULK AT MOST 1048576: true; the input reads as it did. -/
def pensScottUptoRow : OpenClaim := { program := "ytbpmiphipjkdlaa", sum := "ace3f1feee9bcf7bd25be50bbb699c96fd861be69ba70eef9fcc4b652114c305", func := "droveway/drovewaylaw01.PensScott", spec := "pensScott", unfollowed := true, recurses := true, apart := false, narrowed := true }
def PensScottUptoSaid : Prop := pensScottUptoRow.holds Try.pinned (OpenSpec.upto pensScottSpec)

/-- 'drovewaylaw01.PensCounts', WHERE WHAT IT READS IS OF BULK AT MOST 1048576: true; the input reads as it did. -/
def pensCountsUptoRow : OpenClaim := { program := "ytbpmiphipjkdlaa", sum := "ace3f1feee9bcf7bd25be50bbb699c96fd861be69ba70eef9fcc4b652114c305", func := "droveway/drovewaylaw01.PensCounts", spec := "pensCounts", unfollowed := true, recurses := true, apart := false, narrowed := true }
def PensCountsUptoSaid : Prop := pensCountsUptoRow.holds Try.pinned (OpenSpec.upto pensCountsSpec)

/-- 'drovewaylaw01.PensPens', WHERE WHAT IT READS IS OF BULK AT MOST 1048576: true; the input reads as it did. -/
def pensPensUptoRow : OpenClaim := { program := "ytbpmiphipjkdlaa", sum := "ace3f1feee9bcf7bd25be50bbb699c96fd861be69ba70eef9fcc4b652114c305", func := "droveway/drovewaylaw01.PensPens", spec := "pensPens", unfollowed := true, recurses := true, apart := false, narrowed := true }
def PensPensUptoSaid : Prop := pensPensUptoRow.holds Try.pinned (OpenSpec.upto pensPensSpec)

/-- 'drovewaylaw01.PensOpposites', WHERE WHAT IT READS IS OF BULK AT MOST 1048576: true; the input reads as it did. -/
def pensOppositesUptoRow : OpenClaim := { program := "ytbpmiphipjkdlaa", sum := "ace3f1feee9bcf7bd25be50bbb699c96fd861be69ba70eef9fcc4b652114c305", func := "droveway/drovewaylaw01.PensOpposites", spec := "pensOpposites", unfollowed := true, recurses := true, apart := false, narrowed := true }
def PensOppositesUptoSaid : Prop := pensOppositesUptoRow.holds Try.pinned (OpenSpec.upto pensOppositesSpec)

/-- 'drovewaylaw01.PensSheared', WHERE WHAT IT READS IS OF BULK AT MOST 1048576: true; the input reads as it did. -/
def pensShearedUptoRow : OpenClaim := { program := "ytbpmiphipjkdlaa", sum := "ace3f1feee9bcf7bd25be50bbb699c96fd861be69ba70eef9fcc4b652114c305", func := "droveway/drovewaylaw01.PensSheared", spec := "pensSheared", unfollowed := true, recurses := true, apart := false, narrowed := true }
def PensShearedUptoSaid : Prop := pensShearedUptoRow.holds Try.pinned (OpenSpec.upto pensShearedSpec)

/-- 'drovewaylaw01.PensSplits', WHERE WHAT IT READS IS OF BULK AT MOST 1048576: true; the input reads as it did. -/
def pensSplitsUptoRow : OpenClaim := { program := "ytbpmiphipjkdlaa", sum := "ace3f1feee9bcf7bd25be50bbb699c96fd861be69ba70eef9fcc4b652114c305", func := "droveway/drovewaylaw01.PensSplits", spec := "pensSplits", unfollowed := true, recurses := true, apart := false, narrowed := true }
def PensSplitsUptoSaid : Prop := pensSplitsUptoRow.holds Try.pinned (OpenSpec.upto pensSplitsSpec)

/-- 'drovewaylaw01.PensSmall', WHERE WHAT IT READS IS OF BULK AT MOST 1048576: true; the input reads as it did. -/
def pensSmallUptoRow : OpenClaim := { program := "ytbpmiphipjkdlaa", sum := "ace3f1feee9bcf7bd25be50bbb699c96fd861be69ba70eef9fcc4b652114c305", func := "droveway/drovewaylaw01.PensSmall", spec := "pensSmall", unfollowed := true, recurses := true, apart := false, narrowed := true }
def PensSmallUptoSaid : Prop := pensSmallUptoRow.holds Try.pinned (OpenSpec.upto pensSmallSpec)

/-- 'drovewaylaw01.PensHulls', WHERE WHAT IT READS IS OF BULK AT MOST 1048576: true; the input reads as it did. -/
def pensHullsUptoRow : OpenClaim := { program := "ytbpmiphipjkdlaa", sum := "ace3f1feee9bcf7bd25be50bbb699c96fd861be69ba70eef9fcc4b652114c305", func := "droveway/drovewaylaw01.PensHulls", spec := "pensHulls", unfollowed := true, recurses := true, apart := false, narrowed := true }
def PensHullsUptoSaid : Prop := pensHullsUptoRow.holds Try.pinned (OpenSpec.upto pensHullsSpec)

/-- 'drovewaylaw01.PensHull', WHERE WHAT IT READS IS OF BULK AT MOST 1048576: true; the input reads as it did. -/
def pensHullUptoRow : OpenClaim := { program := "ytbpmiphipjkdlaa", sum := "ace3f1feee9bcf7bd25be50bbb699c96fd861be69ba70eef9fcc4b652114c305", func := "droveway/drovewaylaw01.PensHull", spec := "pensHull", unfollowed := true, recurses := true, apart := false, narrowed := true }
def PensHullUptoSaid : Prop := pensHullUptoRow.holds Try.pinned (OpenSpec.upto pensHullSpec)

end Rows
end Go.Proofs.Ytbpmiphipjkdlaa
