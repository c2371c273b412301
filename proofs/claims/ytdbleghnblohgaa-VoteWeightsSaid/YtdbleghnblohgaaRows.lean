/-
  No cell of these rows narrows 'for every input' (looked for: loops, veiled, ifaces, maps, wideKeys, modest, calm, conditions, laid).
  DERIVED. THE GIVEN ROWS OF THIS SEAT. 12 by the template 'for every input the law returns true; each argument reads behind the call as it read before'; 0 by the template 'total and deterministic' (their statements: YtdbleghnblohgaaTotals.lean).
  GIVEN WITH THE SEED: the statements are not yours to turn. If you find one false, say at which input.
  Laid BY PROGRAM, IN A SANDBOX (cutbox-rows.mjs): the forced cells as the released guide's own fill.sh prints them over the translation 9807a36716cc540f… (all of the seat's roots in one cut). By AI agents, Wed Nov 11 2026. No macro, syntax, notation, axiom, sorry.
-/
import Derived.Test.YtdbleghnblohgaaChecked
import GoSem.Claim
import GoSem.ClaimJoined
import GoSem.ClaimMapViews
import Derived.JoinedTies
import Derived.KernelRfl
namespace Go.Proofs.Ytdbleghnblohgaa
/- THE CELL 'sum', in the pinned program and in every row, IS THE sha256 OF THE DUMP (.gsa) THAT YtdbleghnblohgaaProg.lean LOADS. Nothing in Lean hashes anything: it is a label: what it is worth is what the hold of that sum in a sandbox is worth. -/
noncomputable def Try.pinned : Pinned := { name := "ytdbleghnblohgaa", sum := "9807a36716cc540fd522e69540f470bb234cce32ecf738eb1f40c8c961d4b87d", checked := Try.checked }
namespace Rows
def none {H : Type} : Left H := { results := [], args := [] }

/-- 'drovewaylaw03.VotePowers': WHATEVER THE INPUT: true; the input reads as it did. -/
def votePowersSpec : ChangeSpec := { name := "votePowers", fn := fun _ => fun
  | [d] => { results := [.lit (.bool true)], args := [d] }
  | _ => none }
def votePowersRow : OpenClaim := { program := "ytdbleghnblohgaa", sum := "9807a36716cc540fd522e69540f470bb234cce32ecf738eb1f40c8c961d4b87d", func := "droveway/drovewaylaw03.VotePowers", spec := "votePowers", unfollowed := true, recurses := true, apart := false }
def VotePowersSaid : Prop := votePowersRow.holds Try.pinned (OpenSpec.ofChange votePowersSpec)

/-- ITS FALSE NEIGHBOUR: 'it returns false'. Refute it at one input. -/
def votePowersWrong : ChangeSpec := { name := "votePowers", fn := fun _ => fun
  | [d] => { results := [.lit (.bool false)], args := [d] }
  | _ => none }
def VotePowersWrongFalsely : Prop := votePowersRow.holds Try.pinned (OpenSpec.ofChange votePowersWrong)

/-- 'drovewaylaw03.VoteWeights': WHATEVER THE INPUT: true; the input reads as it did. -/
def voteWeightsSpec : ChangeSpec := { name := "voteWeights", fn := fun _ => fun
  | [d1, d2] => { results := [.lit (.bool true)], args := [d1, d2] }
  | _ => none }
def voteWeightsRow : OpenClaim := { program := "ytdbleghnblohgaa", sum := "9807a36716cc540fd522e69540f470bb234cce32ecf738eb1f40c8c961d4b87d", func := "droveway/drovewaylaw03.VoteWeights", spec := "voteWeights", unfollowed := true, recurses := true, apart := false }
def VoteWeightsSaid : Prop := voteWeightsRow.holds Try.pinned (OpenSpec.ofChange voteWeightsSpec)

/-- ITS FALSE NEIGHBOUR: 'it returns false'. Refute it at one input. -/
def voteWeightsWrong : ChangeSpec := { name := "voteWeights", fn := fun _ => fun
  | [d1, d2] => { results := [.lit (.bool false)], args := [d1, d2] }
  | _ => none }
def VoteWeightsWrongFalsely : Prop := voteWeightsRow.holds Try.pinned (OpenSpec.ofChange voteWeightsWrong)

/-- 'drovewaylaw03.VoteMore': WHATEVER THE INPUT: true; the input reads as it did. -/
def voteMoreSpec : ChangeSpec := { name := "voteMore", fn := fun _ => fun
  | [d1, d2, d3] => { results := [.lit (.bool true)], args := [d1, d2, d3] }
  | _ => none }
def voteMoreRow : OpenClaim := { program := "ytdbleghnblohgaa", sum := "9807a36716cc540fd522e69540f470bb234cce32ecf738eb1f40c8c961d4b87d", func := "droveway/drovewaylaw03.VoteMore", spec := "voteMore", unfollowed := true, recurses := true, apart := false }
def VoteMoreSaid : Prop := voteMoreRow.holds Try.pinned (OpenSpec.ofChange voteMoreSpec)

/-- ITS FALSE NEIGHBOUR: 'it returns false'. Refute it at one input. -/
def voteMoreWrong : ChangeSpec := { name := "voteMore", fn := fun _ => fun
  | [d1, d2, d3] => { results := [.lit (.bool false)], args := [d1, d2, d3] }
  | _ => none }
def VoteMoreWrongFalsely : Prop := voteMoreRow.holds Try.pinned (OpenSpec.ofChange voteMoreWrong)

/-- 'drovewaylaw03.VoteWins': WHATEVER THE INPUT: true; the input reads as it did. -/
def voteWinsSpec : ChangeSpec := { name := "voteWins", fn := fun _ => fun
  | [d1, d2] => { results := [.lit (.bool true)], args := [d1, d2] }
  | _ => none }
def voteWinsRow : OpenClaim := { program := "ytdbleghnblohgaa", sum := "9807a36716cc540fd522e69540f470bb234cce32ecf738eb1f40c8c961d4b87d", func := "droveway/drovewaylaw03.VoteWins", spec := "voteWins", unfollowed := true, recurses := true, apart := false }
def VoteWinsSaid : Prop := voteWinsRow.holds Try.pinned (OpenSpec.ofChange voteWinsSpec)

/-- ITS FALSE NEIGHBOUR: 'it returns false'. Refute it at one input. -/
def voteWinsWrong : ChangeSpec := { name := "voteWins", fn := fun _ => fun
  | [d1, d2] => { results := [.lit (.bool false)], args := [d1, d2] }
  | _ => none }
def VoteWinsWrongFalsely : Prop := voteWinsRow.holds Try.pinned (OpenSpec.ofChange voteWinsWrong)

/-- 'drovewaylaw03.VoteTurning': WHATEVER THE INPUT: true; the input reads as it did. -/
def voteTurningSpec : ChangeSpec := { name := "voteTurning", fn := fun _ => fun
  | [d] => { results := [.lit (.bool true)], args := [d] }
  | _ => none }
def voteTurningRow : OpenClaim := { program := "ytdbleghnblohgaa", sum := "9807a36716cc540fd522e69540f470bb234cce32ecf738eb1f40c8c961d4b87d", func := "droveway/drovewaylaw03.VoteTurning", spec := "voteTurning", unfollowed := true, recurses := true, apart := false }
def VoteTurningSaid : Prop := voteTurningRow.holds Try.pinned (OpenSpec.ofChange voteTurningSpec)

/-- ITS FALSE NEIGHBOUR: 'it returns false'. Refute it at one input. -/
def voteTurningWrong : ChangeSpec := { name := "voteTurning", fn := fun _ => fun
  | [d] => { results := [.lit (.bool false)], args := [d] }
  | _ => none }
def VoteTurningWrongFalsely : Prop := voteTurningRow.holds Try.pinned (OpenSpec.ofChange voteTurningWrong)

/-- 'drovewaylaw03.VoteTrades': WHATEVER THE INPUT: true; the input reads as it did. -/
def voteTradesSpec : ChangeSpec := { name := "voteTrades", fn := fun _ => fun
  | [d1, d2, d3] => { results := [.lit (.bool true)], args := [d1, d2, d3] }
  | _ => none }
def voteTradesRow : OpenClaim := { program := "ytdbleghnblohgaa", sum := "9807a36716cc540fd522e69540f470bb234cce32ecf738eb1f40c8c961d4b87d", func := "droveway/drovewaylaw03.VoteTrades", spec := "voteTrades", unfollowed := true, recurses := true, apart := false }
def VoteTradesSaid : Prop := voteTradesRow.holds Try.pinned (OpenSpec.ofChange voteTradesSpec)

/-- ITS FALSE NEIGHBOUR: 'it returns false'. Refute it at one input. -/
def voteTradesWrong : ChangeSpec := { name := "voteTrades", fn := fun _ => fun
  | [d1, d2, d3] => { results := [.lit (.bool false)], args := [d1, d2, d3] }
  | _ => none }
def VoteTradesWrongFalsely : Prop := voteTradesRow.holds Try.pinned (OpenSpec.ofChange voteTradesWrong)

/-- 'drovewaylaw03.VoteEither': WHATEVER THE INPUT: true; the input reads as it did. -/
def voteEitherSpec : ChangeSpec := { name := "voteEither", fn := fun _ => fun
  | [d1, d2, d3] => { results := [.lit (.bool true)], args := [d1, d2, d3] }
  | _ => none }
def voteEitherRow : OpenClaim := { program := "ytdbleghnblohgaa", sum := "9807a36716cc540fd522e69540f470bb234cce32ecf738eb1f40c8c961d4b87d", func := "droveway/drovewaylaw03.VoteEither", spec := "voteEither", unfollowed := true, recurses := true, apart := false }
def VoteEitherSaid : Prop := voteEitherRow.holds Try.pinned (OpenSpec.ofChange voteEitherSpec)

/-- ITS FALSE NEIGHBOUR: 'it returns false'. Refute it at one input. -/
def voteEitherWrong : ChangeSpec := { name := "voteEither", fn := fun _ => fun
  | [d1, d2, d3] => { results := [.lit (.bool false)], args := [d1, d2, d3] }
  | _ => none }
def VoteEitherWrongFalsely : Prop := voteEitherRow.holds Try.pinned (OpenSpec.ofChange voteEitherWrong)

/-- 'drovewaylaw03.VoteRules': WHATEVER THE INPUT: true; the input reads as it did. -/
def voteRulesSpec : ChangeSpec := { name := "voteRules", fn := fun _ => fun
  | [d1, d2, d3] => { results := [.lit (.bool true)], args := [d1, d2, d3] }
  | _ => none }
def voteRulesRow : OpenClaim := { program := "ytdbleghnblohgaa", sum := "9807a36716cc540fd522e69540f470bb234cce32ecf738eb1f40c8c961d4b87d", func := "droveway/drovewaylaw03.VoteRules", spec := "voteRules", unfollowed := true, recurses := true, apart := false }
def VoteRulesSaid : Prop := voteRulesRow.holds Try.pinned (OpenSpec.ofChange voteRulesSpec)

/-- ITS FALSE NEIGHBOUR: 'it returns false'. Refute it at one input. -/
def voteRulesWrong : ChangeSpec := { name := "voteRules", fn := fun _ => fun
  | [d1, d2, d3] => { results := [.lit (.bool false)], args := [d1, d2, d3] }
  | _ => none }
def VoteRulesWrongFalsely : Prop := voteRulesRow.holds Try.pinned (OpenSpec.ofChange voteRulesWrong)

/-- 'drovewaylaw03.VoteOther': WHATEVER THE INPUT: true; the input reads as it did. -/
def voteOtherSpec : ChangeSpec := { name := "voteOther", fn := fun _ => fun
  | [d1, d2, d3] => { results := [.lit (.bool true)], args := [d1, d2, d3] }
  | _ => none }
def voteOtherRow : OpenClaim := { program := "ytdbleghnblohgaa", sum := "9807a36716cc540fd522e69540f470bb234cce32ecf738eb1f40c8c961d4b87d", func := "droveway/drovewaylaw03.VoteOther", spec := "voteOther", unfollowed := true, recurses := true, apart := false }
def VoteOtherSaid : Prop := voteOtherRow.holds Try.pinned (OpenSpec.ofChange voteOtherSpec)

/-- ITS FALSE NEIGHBOUR: 'it returns false'. Refute it at one input. -/
def voteOtherWrong : ChangeSpec := { name := "voteOther", fn := fun _ => fun
  | [d1, d2, d3] => { results := [.lit (.bool false)], args := [d1, d2, d3] }
  | _ => none }
def VoteOtherWrongFalsely : Prop := voteOtherRow.holds Try.pinned (OpenSpec.ofChange voteOtherWrong)

/-- 'drovewaylaw03.VoteKindly': WHATEVER THE INPUT: true; the input reads as it did. -/
def voteKindlySpec : ChangeSpec := { name := "voteKindly", fn := fun _ => fun
  | [d] => { results := [.lit (.bool true)], args := [d] }
  | _ => none }
def voteKindlyRow : OpenClaim := { program := "ytdbleghnblohgaa", sum := "9807a36716cc540fd522e69540f470bb234cce32ecf738eb1f40c8c961d4b87d", func := "droveway/drovewaylaw03.VoteKindly", spec := "voteKindly", unfollowed := true, recurses := true, apart := false }
def VoteKindlySaid : Prop := voteKindlyRow.holds Try.pinned (OpenSpec.ofChange voteKindlySpec)

/-- ITS FALSE NEIGHBOUR: 'it returns false'. Refute it at one input. -/
def voteKindlyWrong : ChangeSpec := { name := "voteKindly", fn := fun _ => fun
  | [d] => { results := [.lit (.bool false)], args := [d] }
  | _ => none }
def VoteKindlyWrongFalsely : Prop := voteKindlyRow.holds Try.pinned (OpenSpec.ofChange voteKindlyWrong)

/-- 'drovewaylaw03.VoteRuled': WHATEVER THE INPUT: true; the input reads as it did. -/
def voteRuledSpec : ChangeSpec := { name := "voteRuled", fn := fun _ => fun
  | [d1, d2] => { results := [.lit (.bool true)], args := [d1, d2] }
  | _ => none }
def voteRuledRow : OpenClaim := { program := "ytdbleghnblohgaa", sum := "9807a36716cc540fd522e69540f470bb234cce32ecf738eb1f40c8c961d4b87d", func := "droveway/drovewaylaw03.VoteRuled", spec := "voteRuled", unfollowed := true, recurses := true, apart := false }
def VoteRuledSaid : Prop := voteRuledRow.holds Try.pinned (OpenSpec.ofChange voteRuledSpec)

/-- ITS FALSE NEIGHBOUR: 'it returns false'. Refute it at one input. -/
def voteRuledWrong : ChangeSpec := { name := "voteRuled", fn := fun _ => fun
  | [d1, d2] => { results := [.lit (.bool false)], args := [d1, d2] }
  | _ => none }
def VoteRuledWrongFalsely : Prop := voteRuledRow.holds Try.pinned (OpenSpec.ofChange voteRuledWrong)

/-- 'drovewaylaw03.VoteKinds': WHATEVER THE INPUT: true; the input reads as it did. -/
def voteKindsSpec : ChangeSpec := { name := "voteKinds", fn := fun _ => fun
  | [d1, d2] => { results := [.lit (.bool true)], args := [d1, d2] }
  | _ => none }
def voteKindsRow : OpenClaim := { program := "ytdbleghnblohgaa", sum := "9807a36716cc540fd522e69540f470bb234cce32ecf738eb1f40c8c961d4b87d", func := "droveway/drovewaylaw03.VoteKinds", spec := "voteKinds", unfollowed := true, recurses := true, apart := false }
def VoteKindsSaid : Prop := voteKindsRow.holds Try.pinned (OpenSpec.ofChange voteKindsSpec)

/-- ITS FALSE NEIGHBOUR: 'it returns false'. Refute it at one input. -/
def voteKindsWrong : ChangeSpec := { name := "voteKinds", fn := fun _ => fun
  | [d1, d2] => { results := [.lit (.bool false)], args := [d1, d2] }
  | _ => none }
def VoteKindsWrongFalsely : Prop := voteKindsRow.holds Try.pinned (OpenSpec.ofChange voteKindsWrong)

/- THE SECOND FORM. 'bulk': how many values and letters a reading holds, each counted each time it is reached (what is shared counts as often as it is met; a slice's spare places count too). A statement '..UptoSaid' is the law's where the arguments, and the package variables that the reading takes, are together of bulk at most 1048576: NARROWER than '..Said'. Prove '..Said' where nothing that the law and all that it calls make is longer than what came in: it says more and counts as full. Else prove '..UptoSaid'. A law counts once. -/
mutual
def uptoBulk {H : Type} : DataW H → Nat
  | .lit (.string bytes) => bytes.length + 1
  | .lit _ => 1
  | .nil => 1
  | .ptr d => uptoBulk d + 1
  | .slice elems spare => uptoBulkAll elems + uptoBulkAll spare + 1
  | .agg parts => uptoBulkAll parts + 1
  | .iface _ d => uptoBulk d + 1
  | .map entries => uptoBulkEntries entries + 1
  | .held _ => 1
def uptoBulkAll {H : Type} : List (DataW H) → Nat
  | [] => 0
  | d :: r => uptoBulk d + uptoBulkAll r
def uptoBulkEntries {H : Type} : List (Lit × DataW H) → Nat
  | [] => 0
  | x :: r => uptoBulkEntry x + uptoBulkEntries r
def uptoBulkEntry {H : Type} : Lit × DataW H → Nat
  | (.string bytes, d) => bytes.length + uptoBulk d + 1
  | (_, d) => uptoBulk d + 1
 end
def uptoSmall : (H : Type) → List (DataW H) → Bool := fun _ ds => decide (uptoBulkAll ds ≤ 1048576)
def OpenSpec.upto (s : _root_.Go.ChangeSpec) : _root_.Go.OpenSpec := { _root_.Go.OpenSpec.ofChange s with cond := some uptoSmall }

/-- 'drovewaylaw03.VotePowers', WHERE WHAT IT READS IS OF BULK AT MOST 1048576: true; the input reads as it did. -/
def votePowersUptoRow : OpenClaim := { program := "ytdbleghnblohgaa", sum := "9807a36716cc540fd522e69540f470bb234cce32ecf738eb1f40c8c961d4b87d", func := "droveway/drovewaylaw03.VotePowers", spec := "votePowers", unfollowed := true, recurses := true, apart := false, narrowed := true }
def VotePowersUptoSaid : Prop := votePowersUptoRow.holds Try.pinned (OpenSpec.upto votePowersSpec)

/-- 'drovewaylaw03.VoteWeights', WHERE WHAT IT READS IS OF BULK AT MOST 1048576: true; the input reads as it did. -/
def voteWeightsUptoRow : OpenClaim := { program := "ytdbleghnblohgaa", sum := "9807a36716cc540fd522e69540f470bb234cce32ecf738eb1f40c8c961d4b87d", func := "droveway/drovewaylaw03.VoteWeights", spec := "voteWeights", unfollowed := true, recurses := true, apart := false, narrowed := true }
def VoteWeightsUptoSaid : Prop := voteWeightsUptoRow.holds Try.pinned (OpenSpec.upto voteWeightsSpec)

/-- 'drovewaylaw03.VoteMore', WHERE WHAT IT READS IS OF BULK AT MOST 1048576: true; the input reads as it did. -/
def voteMoreUptoRow : OpenClaim := { program := "ytdbleghnblohgaa", sum := "9807a36716cc540fd522e69540f470bb234cce32ecf738eb1f40c8c961d4b87d", func := "droveway/drovewaylaw03.VoteMore", spec := "voteMore", unfollowed := true, recurses := true, apart := false, narrowed := true }
def VoteMoreUptoSaid : Prop := voteMoreUptoRow.holds Try.pinned (OpenSpec.upto voteMoreSpec)

/-- 'drovewaylaw03.VoteWins', WHERE WHAT IT READS IS OF BULK AT MOST 1048576: true; the input reads as it did. -/
def voteWinsUptoRow : OpenClaim := { program := "ytdbleghnblohgaa", sum := "9807a36716cc540fd522e69540f470bb234cce32ecf738eb1f40c8c961d4b87d", func := "droveway/drovewaylaw03.VoteWins", spec := "voteWins", unfollowed := true, recurses := true, apart := false, narrowed := true }
def VoteWinsUptoSaid : Prop := voteWinsUptoRow.holds Try.pinned (OpenSpec.upto voteWinsSpec)

/-- 'drovewaylaw03.VoteTurning', WHERE WHAT IT READS IS OF BULK AT MOST 1048576: true; the input reads as it did. -/
def voteTurningUptoRow : OpenClaim := { program := "ytdbleghnblohgaa", sum := "9807a36716cc540fd522e69540f470bb234cce32ecf738eb1f40c8c961d4b87d", func := "droveway/drovewaylaw03.VoteTurning", spec := "voteTurning", unfollowed := true, recurses := true, apart := false, narrowed := true }
def VoteTurningUptoSaid : Prop := voteTurningUptoRow.holds Try.pinned (OpenSpec.upto voteTurningSpec)

/-- 'drovewaylaw03.VoteTrades', WHERE WHAT IT READS IS OF BULK AT MOST 1048576: true; the input reads as it did. -/
def voteTradesUptoRow : OpenClaim := { program := "ytdbleghnblohgaa", sum := "9807a36716cc540fd522e69540f470bb234cce32ecf738eb1f40c8c961d4b87d", func := "droveway/drovewaylaw03.VoteTrades", spec := "voteTrades", unfollowed := true, recurses := true, apart := false, narrowed := true }
def VoteTradesUptoSaid : Prop := voteTradesUptoRow.holds Try.pinned (OpenSpec.upto voteTradesSpec)

/-- 'drovewaylaw03.VoteEither', WHERE WHAT IT READS IS OF BULK AT MOST 1048576: true; the input reads as it did. -/
def voteEitherUptoRow : OpenClaim := { program := "ytdbleghnblohgaa", sum := "9807a36716cc540fd522e69540f470bb234cce32ecf738eb1f40c8c961d4b87d", func := "droveway/drovewaylaw03.VoteEither", spec := "voteEither", unfollowed := true, recurses := true, apart := false, narrowed := true }
def VoteEitherUptoSaid : Prop := voteEitherUptoRow.holds Try.pinned (OpenSpec.upto voteEitherSpec)

/-- 'drovewaylaw03.VoteRules', WHERE WHAT IT READS IS OF BULK AT MOST 1048576: true; the input reads as it did. -/
def voteRulesUptoRow : OpenClaim := { program := "ytdbleghnblohgaa", sum := "9807a36716cc540fd522e69540f470bb234cce32ecf738eb1f40c8c961d4b87d", func := "droveway/drovewaylaw03.VoteRules", spec := "voteRules", unfollowed := true, recurses := true, apart := false, narrowed := true }
def VoteRulesUptoSaid : Prop := voteRulesUptoRow.holds Try.pinned (OpenSpec.upto voteRulesSpec)

/-- 'drovewaylaw03.VoteOther', WHERE WHAT IT READS IS OF BULK AT MOST 1048576: true; the input reads as it did. -/
def voteOtherUptoRow : OpenClaim := { program := "ytdbleghnblohgaa", sum := "9807a36716cc540fd522e69540f470bb234cce32ecf738eb1f40c8c961d4b87d", func := "droveway/drovewaylaw03.VoteOther", spec := "voteOther", unfollowed := true, recurses := true, apart := false, narrowed := true }
def VoteOtherUptoSaid : Prop := voteOtherUptoRow.holds Try.pinned (OpenSpec.upto voteOtherSpec)

/-- 'drovewaylaw03.VoteKindly', WHERE WHAT IT READS IS OF BULK AT MOST 1048576: true; the input reads as it did. -/
def voteKindlyUptoRow : OpenClaim := { program := "ytdbleghnblohgaa", sum := "9807a36716cc540fd522e69540f470bb234cce32ecf738eb1f40c8c961d4b87d", func := "droveway/drovewaylaw03.VoteKindly", spec := "voteKindly", unfollowed := true, recurses := true, apart := false, narrowed := true }
def VoteKindlyUptoSaid : Prop := voteKindlyUptoRow.holds Try.pinned (OpenSpec.upto voteKindlySpec)

/-- 'drovewaylaw03.VoteRuled', WHERE WHAT IT READS IS OF BULK AT MOST 1048576: true; the input reads as it did. -/
def voteRuledUptoRow : OpenClaim := { program := "ytdbleghnblohgaa", sum := "9807a36716cc540fd522e69540f470bb234cce32ecf738eb1f40c8c961d4b87d", func := "droveway/drovewaylaw03.VoteRuled", spec := "voteRuled", unfollowed := true, recurses := true, apart := false, narrowed := true }
def VoteRuledUptoSaid : Prop := voteRuledUptoRow.holds Try.pinned (OpenSpec.upto voteRuledSpec)

/-- 'drovewaylaw03.VoteKinds', WHERE WHAT IT READS IS OF BULK AT MOST 1048576: true; the input reads as it did. -/
def voteKindsUptoRow : OpenClaim := { program := "ytdbleghnblohgaa", sum := "9807a36716cc540fd522e69540f470bb234cce32ecf738eb1f40c8c961d4b87d", func := "droveway/drovewaylaw03.VoteKinds", spec := "voteKinds", unfollowed := true, recurses := true, apart := false, narrowed := true }
def VoteKindsUptoSaid : Prop := voteKindsUptoRow.holds Try.pinned (OpenSpec.upto voteKindsSpec)

end Rows
end Go.Proofs.Ytdbleghnblohgaa
