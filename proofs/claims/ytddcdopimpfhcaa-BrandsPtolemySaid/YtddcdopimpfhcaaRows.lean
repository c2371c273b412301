/-
  No cell of these rows narrows 'for every input' (looked for: loops, veiled, ifaces, maps, wideKeys, modest, calm, conditions, laid).
  DERIVED. THE GIVEN ROWS OF THIS SEAT. 14 by the template 'for every input the law returns true; each argument reads behind the call as it read before'; 0 by the template 'total and deterministic' (their statements: YtddcdopimpfhcaaTotals.lean).
  GIVEN WITH THE SEED: the statements are not yours to turn. If you find one false, say at which input.
  Laid BY PROGRAM, IN A SANDBOX (cutbox-rows.mjs): the forced cells as the released guide's own fill.sh prints them over the translation 6bb02f5313ec0391… (all of the seat's roots in one cut). By AI agents, Wed Nov 11 2026. No macro, syntax, notation, axiom, sorry.
-/
import Derived.Test.YtddcdopimpfhcaaChecked
import GoSem.Claim
import GoSem.ClaimJoined
import GoSem.ClaimMapViews
import Derived.JoinedTies
import Derived.KernelRfl
namespace Go.Proofs.Ytddcdopimpfhcaa
/- THE CELL 'sum', in the pinned program and in every row, IS THE sha256 OF THE DUMP (.gsa) THAT YtddcdopimpfhcaaProg.lean LOADS. Nothing in Lean hashes anything: it is a label: what it is worth is what the hold of that sum in a sandbox is worth. -/
noncomputable def Try.pinned : Pinned := { name := "ytddcdopimpfhcaa", sum := "6bb02f5313ec03911e6d57a25ec2e50e2077c339beb378a0d338671e22193514", checked := Try.checked }
namespace Rows
def none {H : Type} : Left H := { results := [], args := [] }

/-- 'drovewaylaw02.BrandsChoices': WHATEVER THE INPUT: true; the input reads as it did. -/
def brandsChoicesSpec : ChangeSpec := { name := "brandsChoices", fn := fun _ => fun
  | [d1, d2, d3, d4] => { results := [.lit (.bool true)], args := [d1, d2, d3, d4] }
  | _ => none }
def brandsChoicesRow : OpenClaim := { program := "ytddcdopimpfhcaa", sum := "6bb02f5313ec03911e6d57a25ec2e50e2077c339beb378a0d338671e22193514", func := "droveway/drovewaylaw02.BrandsChoices", spec := "brandsChoices", unfollowed := true, recurses := true, apart := false }
def BrandsChoicesSaid : Prop := brandsChoicesRow.holds Try.pinned (OpenSpec.ofChange brandsChoicesSpec)

/-- ITS FALSE NEIGHBOUR: 'it returns false'. Refute it at one input. -/
def brandsChoicesWrong : ChangeSpec := { name := "brandsChoices", fn := fun _ => fun
  | [d1, d2, d3, d4] => { results := [.lit (.bool false)], args := [d1, d2, d3, d4] }
  | _ => none }
def BrandsChoicesWrongFalsely : Prop := brandsChoicesRow.holds Try.pinned (OpenSpec.ofChange brandsChoicesWrong)

/-- 'drovewaylaw02.BrandsFlips': WHATEVER THE INPUT: true; the input reads as it did. -/
def brandsFlipsSpec : ChangeSpec := { name := "brandsFlips", fn := fun _ => fun
  | [d1, d2, d3] => { results := [.lit (.bool true)], args := [d1, d2, d3] }
  | _ => none }
def brandsFlipsRow : OpenClaim := { program := "ytddcdopimpfhcaa", sum := "6bb02f5313ec03911e6d57a25ec2e50e2077c339beb378a0d338671e22193514", func := "droveway/drovewaylaw02.BrandsFlips", spec := "brandsFlips", unfollowed := true, recurses := true, apart := false }
def BrandsFlipsSaid : Prop := brandsFlipsRow.holds Try.pinned (OpenSpec.ofChange brandsFlipsSpec)

/-- ITS FALSE NEIGHBOUR: 'it returns false'. Refute it at one input. -/
def brandsFlipsWrong : ChangeSpec := { name := "brandsFlips", fn := fun _ => fun
  | [d1, d2, d3] => { results := [.lit (.bool false)], args := [d1, d2, d3] }
  | _ => none }
def BrandsFlipsWrongFalsely : Prop := brandsFlipsRow.holds Try.pinned (OpenSpec.ofChange brandsFlipsWrong)

/-- 'drovewaylaw02.BrandsCounts': WHATEVER THE INPUT: true; the input reads as it did. -/
def brandsCountsSpec : ChangeSpec := { name := "brandsCounts", fn := fun _ => fun
  | [d] => { results := [.lit (.bool true)], args := [d] }
  | _ => none }
def brandsCountsRow : OpenClaim := { program := "ytddcdopimpfhcaa", sum := "6bb02f5313ec03911e6d57a25ec2e50e2077c339beb378a0d338671e22193514", func := "droveway/drovewaylaw02.BrandsCounts", spec := "brandsCounts", unfollowed := true, recurses := true, apart := false }
def BrandsCountsSaid : Prop := brandsCountsRow.holds Try.pinned (OpenSpec.ofChange brandsCountsSpec)

/-- ITS FALSE NEIGHBOUR: 'it returns false'. Refute it at one input. -/
def brandsCountsWrong : ChangeSpec := { name := "brandsCounts", fn := fun _ => fun
  | [d] => { results := [.lit (.bool false)], args := [d] }
  | _ => none }
def BrandsCountsWrongFalsely : Prop := brandsCountsRow.holds Try.pinned (OpenSpec.ofChange brandsCountsWrong)

/-- 'drovewaylaw02.BrandsFlipped': WHATEVER THE INPUT: true; the input reads as it did. -/
def brandsFlippedSpec : ChangeSpec := { name := "brandsFlipped", fn := fun _ => fun
  | [d1, d2, d3] => { results := [.lit (.bool true)], args := [d1, d2, d3] }
  | _ => none }
def brandsFlippedRow : OpenClaim := { program := "ytddcdopimpfhcaa", sum := "6bb02f5313ec03911e6d57a25ec2e50e2077c339beb378a0d338671e22193514", func := "droveway/drovewaylaw02.BrandsFlipped", spec := "brandsFlipped", unfollowed := true, recurses := true, apart := false }
def BrandsFlippedSaid : Prop := brandsFlippedRow.holds Try.pinned (OpenSpec.ofChange brandsFlippedSpec)

/-- ITS FALSE NEIGHBOUR: 'it returns false'. Refute it at one input. -/
def brandsFlippedWrong : ChangeSpec := { name := "brandsFlipped", fn := fun _ => fun
  | [d1, d2, d3] => { results := [.lit (.bool false)], args := [d1, d2, d3] }
  | _ => none }
def BrandsFlippedWrongFalsely : Prop := brandsFlippedRow.holds Try.pinned (OpenSpec.ofChange brandsFlippedWrong)

/-- 'drovewaylaw02.BrandsCatalan': WHATEVER THE INPUT: true; the input reads as it did. -/
def brandsCatalanSpec : ChangeSpec := { name := "brandsCatalan", fn := fun _ => fun
  | [d] => { results := [.lit (.bool true)], args := [d] }
  | _ => none }
def brandsCatalanRow : OpenClaim := { program := "ytddcdopimpfhcaa", sum := "6bb02f5313ec03911e6d57a25ec2e50e2077c339beb378a0d338671e22193514", func := "droveway/drovewaylaw02.BrandsCatalan", spec := "brandsCatalan", unfollowed := true, recurses := true, apart := false }
def BrandsCatalanSaid : Prop := brandsCatalanRow.holds Try.pinned (OpenSpec.ofChange brandsCatalanSpec)

/-- ITS FALSE NEIGHBOUR: 'it returns false'. Refute it at one input. -/
def brandsCatalanWrong : ChangeSpec := { name := "brandsCatalan", fn := fun _ => fun
  | [d] => { results := [.lit (.bool false)], args := [d] }
  | _ => none }
def BrandsCatalanWrongFalsely : Prop := brandsCatalanRow.holds Try.pinned (OpenSpec.ofChange brandsCatalanWrong)

/-- 'drovewaylaw02.BrandsParts': WHATEVER THE INPUT: true; the input reads as it did. -/
def brandsPartsSpec : ChangeSpec := { name := "brandsParts", fn := fun _ => fun
  | [d1, d2] => { results := [.lit (.bool true)], args := [d1, d2] }
  | _ => none }
def brandsPartsRow : OpenClaim := { program := "ytddcdopimpfhcaa", sum := "6bb02f5313ec03911e6d57a25ec2e50e2077c339beb378a0d338671e22193514", func := "droveway/drovewaylaw02.BrandsParts", spec := "brandsParts", unfollowed := true, recurses := true, apart := false }
def BrandsPartsSaid : Prop := brandsPartsRow.holds Try.pinned (OpenSpec.ofChange brandsPartsSpec)

/-- ITS FALSE NEIGHBOUR: 'it returns false'. Refute it at one input. -/
def brandsPartsWrong : ChangeSpec := { name := "brandsParts", fn := fun _ => fun
  | [d1, d2] => { results := [.lit (.bool false)], args := [d1, d2] }
  | _ => none }
def BrandsPartsWrongFalsely : Prop := brandsPartsRow.holds Try.pinned (OpenSpec.ofChange brandsPartsWrong)

/-- 'drovewaylaw02.BrandsBroline': WHATEVER THE INPUT: true; the input reads as it did. -/
def brandsBrolineSpec : ChangeSpec := { name := "brandsBroline", fn := fun _ => fun
  | [d1, d2, d3, d4] => { results := [.lit (.bool true)], args := [d1, d2, d3, d4] }
  | _ => none }
def brandsBrolineRow : OpenClaim := { program := "ytddcdopimpfhcaa", sum := "6bb02f5313ec03911e6d57a25ec2e50e2077c339beb378a0d338671e22193514", func := "droveway/drovewaylaw02.BrandsBroline", spec := "brandsBroline", unfollowed := true, recurses := true, apart := false }
def BrandsBrolineSaid : Prop := brandsBrolineRow.holds Try.pinned (OpenSpec.ofChange brandsBrolineSpec)

/-- ITS FALSE NEIGHBOUR: 'it returns false'. Refute it at one input. -/
def brandsBrolineWrong : ChangeSpec := { name := "brandsBroline", fn := fun _ => fun
  | [d1, d2, d3, d4] => { results := [.lit (.bool false)], args := [d1, d2, d3, d4] }
  | _ => none }
def BrandsBrolineWrongFalsely : Prop := brandsBrolineRow.holds Try.pinned (OpenSpec.ofChange brandsBrolineWrong)

/-- 'drovewaylaw02.BrandsPtolemy': WHATEVER THE INPUT: true; the input reads as it did. -/
def brandsPtolemySpec : ChangeSpec := { name := "brandsPtolemy", fn := fun _ => fun
  | [d1, d2, d3] => { results := [.lit (.bool true)], args := [d1, d2, d3] }
  | _ => none }
def brandsPtolemyRow : OpenClaim := { program := "ytddcdopimpfhcaa", sum := "6bb02f5313ec03911e6d57a25ec2e50e2077c339beb378a0d338671e22193514", func := "droveway/drovewaylaw02.BrandsPtolemy", spec := "brandsPtolemy", unfollowed := true, recurses := true, apart := false }
def BrandsPtolemySaid : Prop := brandsPtolemyRow.holds Try.pinned (OpenSpec.ofChange brandsPtolemySpec)

/-- ITS FALSE NEIGHBOUR: 'it returns false'. Refute it at one input. -/
def brandsPtolemyWrong : ChangeSpec := { name := "brandsPtolemy", fn := fun _ => fun
  | [d1, d2, d3] => { results := [.lit (.bool false)], args := [d1, d2, d3] }
  | _ => none }
def BrandsPtolemyWrongFalsely : Prop := brandsPtolemyRow.holds Try.pinned (OpenSpec.ofChange brandsPtolemyWrong)

/-- 'drovewaylaw02.BrandsFriezes': WHATEVER THE INPUT: true; the input reads as it did. -/
def brandsFriezesSpec : ChangeSpec := { name := "brandsFriezes", fn := fun _ => fun
  | [d] => { results := [.lit (.bool true)], args := [d] }
  | _ => none }
def brandsFriezesRow : OpenClaim := { program := "ytddcdopimpfhcaa", sum := "6bb02f5313ec03911e6d57a25ec2e50e2077c339beb378a0d338671e22193514", func := "droveway/drovewaylaw02.BrandsFriezes", spec := "brandsFriezes", unfollowed := true, recurses := true, apart := false }
def BrandsFriezesSaid : Prop := brandsFriezesRow.holds Try.pinned (OpenSpec.ofChange brandsFriezesSpec)

/-- ITS FALSE NEIGHBOUR: 'it returns false'. Refute it at one input. -/
def brandsFriezesWrong : ChangeSpec := { name := "brandsFriezes", fn := fun _ => fun
  | [d] => { results := [.lit (.bool false)], args := [d] }
  | _ => none }
def BrandsFriezesWrongFalsely : Prop := brandsFriezesRow.holds Try.pinned (OpenSpec.ofChange brandsFriezesWrong)

/-- 'drovewaylaw02.BrandsBetween': WHATEVER THE INPUT: true; the input reads as it did. -/
def brandsBetweenSpec : ChangeSpec := { name := "brandsBetween", fn := fun _ => fun
  | [d1, d2, d3] => { results := [.lit (.bool true)], args := [d1, d2, d3] }
  | _ => none }
def brandsBetweenRow : OpenClaim := { program := "ytddcdopimpfhcaa", sum := "6bb02f5313ec03911e6d57a25ec2e50e2077c339beb378a0d338671e22193514", func := "droveway/drovewaylaw02.BrandsBetween", spec := "brandsBetween", unfollowed := true, recurses := true, apart := false }
def BrandsBetweenSaid : Prop := brandsBetweenRow.holds Try.pinned (OpenSpec.ofChange brandsBetweenSpec)

/-- ITS FALSE NEIGHBOUR: 'it returns false'. Refute it at one input. -/
def brandsBetweenWrong : ChangeSpec := { name := "brandsBetween", fn := fun _ => fun
  | [d1, d2, d3] => { results := [.lit (.bool false)], args := [d1, d2, d3] }
  | _ => none }
def BrandsBetweenWrongFalsely : Prop := brandsBetweenRow.holds Try.pinned (OpenSpec.ofChange brandsBetweenWrong)

/-- 'drovewaylaw02.BrandsOf': WHATEVER THE INPUT: true; the input reads as it did. -/
def brandsOfSpec : ChangeSpec := { name := "brandsOf", fn := fun _ => fun
  | [d] => { results := [.lit (.bool true)], args := [d] }
  | _ => none }
def brandsOfRow : OpenClaim := { program := "ytddcdopimpfhcaa", sum := "6bb02f5313ec03911e6d57a25ec2e50e2077c339beb378a0d338671e22193514", func := "droveway/drovewaylaw02.BrandsOf", spec := "brandsOf", unfollowed := true, recurses := true, apart := false }
def BrandsOfSaid : Prop := brandsOfRow.holds Try.pinned (OpenSpec.ofChange brandsOfSpec)

/-- ITS FALSE NEIGHBOUR: 'it returns false'. Refute it at one input. -/
def brandsOfWrong : ChangeSpec := { name := "brandsOf", fn := fun _ => fun
  | [d] => { results := [.lit (.bool false)], args := [d] }
  | _ => none }
def BrandsOfWrongFalsely : Prop := brandsOfRow.holds Try.pinned (OpenSpec.ofChange brandsOfWrong)

/-- 'drovewaylaw02.BrandsConway': WHATEVER THE INPUT: true; the input reads as it did. -/
def brandsConwaySpec : ChangeSpec := { name := "brandsConway", fn := fun _ => fun
  | [d1, d2, d3] => { results := [.lit (.bool true)], args := [d1, d2, d3] }
  | _ => none }
def brandsConwayRow : OpenClaim := { program := "ytddcdopimpfhcaa", sum := "6bb02f5313ec03911e6d57a25ec2e50e2077c339beb378a0d338671e22193514", func := "droveway/drovewaylaw02.BrandsConway", spec := "brandsConway", unfollowed := true, recurses := true, apart := false }
def BrandsConwaySaid : Prop := brandsConwayRow.holds Try.pinned (OpenSpec.ofChange brandsConwaySpec)

/-- ITS FALSE NEIGHBOUR: 'it returns false'. Refute it at one input. -/
def brandsConwayWrong : ChangeSpec := { name := "brandsConway", fn := fun _ => fun
  | [d1, d2, d3] => { results := [.lit (.bool false)], args := [d1, d2, d3] }
  | _ => none }
def BrandsConwayWrongFalsely : Prop := brandsConwayRow.holds Try.pinned (OpenSpec.ofChange brandsConwayWrong)

/-- 'drovewaylaw02.BrandsCuts': WHATEVER THE INPUT: true; the input reads as it did. -/
def brandsCutsSpec : ChangeSpec := { name := "brandsCuts", fn := fun _ => fun
  | [d1, d2] => { results := [.lit (.bool true)], args := [d1, d2] }
  | _ => none }
def brandsCutsRow : OpenClaim := { program := "ytddcdopimpfhcaa", sum := "6bb02f5313ec03911e6d57a25ec2e50e2077c339beb378a0d338671e22193514", func := "droveway/drovewaylaw02.BrandsCuts", spec := "brandsCuts", inPlace := ["slices.overlaps[int]"], unfollowed := true, recurses := true, apart := false }
def BrandsCutsSaid : Prop := brandsCutsRow.holds Try.pinned (OpenSpec.ofChange brandsCutsSpec)

/-- ITS FALSE NEIGHBOUR: 'it returns false'. Refute it at one input. -/
def brandsCutsWrong : ChangeSpec := { name := "brandsCuts", fn := fun _ => fun
  | [d1, d2] => { results := [.lit (.bool false)], args := [d1, d2] }
  | _ => none }
def BrandsCutsWrongFalsely : Prop := brandsCutsRow.holds Try.pinned (OpenSpec.ofChange brandsCutsWrong)

/-- 'drovewaylaw02.BrandsEars': WHATEVER THE INPUT: true; the input reads as it did. -/
def brandsEarsSpec : ChangeSpec := { name := "brandsEars", fn := fun _ => fun
  | [d1, d2] => { results := [.lit (.bool true)], args := [d1, d2] }
  | _ => none }
def brandsEarsRow : OpenClaim := { program := "ytddcdopimpfhcaa", sum := "6bb02f5313ec03911e6d57a25ec2e50e2077c339beb378a0d338671e22193514", func := "droveway/drovewaylaw02.BrandsEars", spec := "brandsEars", inPlace := ["slices.overlaps[int]"], unfollowed := true, recurses := true, apart := false }
def BrandsEarsSaid : Prop := brandsEarsRow.holds Try.pinned (OpenSpec.ofChange brandsEarsSpec)

/-- ITS FALSE NEIGHBOUR: 'it returns false'. Refute it at one input. -/
def brandsEarsWrong : ChangeSpec := { name := "brandsEars", fn := fun _ => fun
  | [d1, d2] => { results := [.lit (.bool false)], args := [d1, d2] }
  | _ => none }
def BrandsEarsWrongFalsely : Prop := brandsEarsRow.holds Try.pinned (OpenSpec.ofChange brandsEarsWrong)

/- THE SECOND FORM. 'bulk': how many values and letters a reading holds, each counted each time it is reached (what is shared counts as often as it is met; a slice's spare places count too). A statement '..UptoSaid' is the law's where the arguments, and the package variables that the reading takes, are together of bulk at most 1048576: NARROWER than '..Said'. Prove '..Said' where nothing that the law and all that it calls make is longer than what came in: it says more and counts as full. Else prove '..UptoSaid'. A law counts once. -/
mutual
def uptoBulk {H : Type} : DataW H → Nat
  | .lit (.string bytes) => bytes.length + 1
  | .lit _ => 1
  | .nil => 1
  | .ptr d => uptoBulk d + 1
  | .slice elems spare => uptoBulkAll elems + uptoBulkAll spare + 1
  | .agg parts => uptoBulkAll parts + 1
  | .iface _ d => uptoBulk d + 1
  | .map entries => uptoBulkEntries entries + 1
  | .held _ => 1
def uptoBulkAll {H : Type} : List (DataW H) → Nat
  | [] => 0
  | d :: r => uptoBulk d + uptoBulkAll r
def uptoBulkEntries {H : Type} : List (Lit × DataW H) → Nat
  | [] => 0
  | x :: r => uptoBulkEntry x + uptoBulkEntries r
def uptoBulkEntry {H : Type} : Lit × DataW H → Nat
  | (.string bytes, d) => bytes.length + uptoBulk d + 1
  | (_, d) => uptoBulk d + 1
 end
def uptoSmall : (H : Type) → List (DataW H) → Bool := fun _ ds => decide (uptoBulkAll ds ≤ 1048576)
def OpenSpec.upto (s : _root_.Go.ChangeSpec) : _root_.Go.OpenSpec := { _root_.Go.OpenSpec.ofChange s with cond := some uptoSmall }

/-- 'drovewaylaw02.BrandsChoices', WHERE WHAT IT READS IS OF BULK AT MOST 1048576: true; the input reads as it did. -/
def brandsChoicesUptoRow : OpenClaim := { program := "ytddcdopimpfhcaa", sum := "6bb02f5313ec03911e6d57a25ec2e50e2077c339beb378a0d338671e22193514", func := "droveway/drovewaylaw02.BrandsChoices", spec := "brandsChoices", unfollowed := true, recurses := true, apart := false, narrowed := true }
def BrandsChoicesUptoSaid : Prop := brandsChoicesUptoRow.holds Try.pinned (OpenSpec.upto brandsChoicesSpec)

/-- 'drovewaylaw02.BrandsFlips', WHERE WHAT IT READS IS OF BULK AT MOST 1048576: true; the input reads as it did. -/
def brandsFlipsUptoRow : OpenClaim := { program := "ytddcdopimpfhcaa", sum := "6bb02f5313ec03911e6d57a25ec2e50e2077c339beb378a0d338671e22193514", func := "droveway/drovewaylaw02.BrandsFlips", spec := "brandsFlips", unfollowed := true, recurses := true, apart := false, narrowed := true }
def BrandsFlipsUptoSaid : Prop := brandsFlipsUptoRow.holds Try.pinned (OpenSpec.upto brandsFlipsSpec)

/-- 'drovewaylaw02.BrandsCounts', WHERE WHAT IT READS IS OF BULK AT MOST 1048576: true; the input reads as it did. -/
def brandsCountsUptoRow : OpenClaim := { program := "ytddcdopimpfhcaa", sum := "6bb02f5313ec03911e6d57a25ec2e50e2077c339beb378a0d338671e22193514", func := "droveway/drovewaylaw02.BrandsCounts", spec := "brandsCounts", unfollowed := true, recurses := true, apart := false, narrowed := true }
def BrandsCountsUptoSaid : Prop := brandsCountsUptoRow.holds Try.pinned (OpenSpec.upto brandsCountsSpec)

/-- 'drovewaylaw02.BrandsFlipped', WHERE WHAT IT READS IS OF BULK AT MOST 1048576: true; the input reads as it did. -/
def brandsFlippedUptoRow : OpenClaim := { program := "ytddcdopimpfhcaa", sum := "6bb02f5313ec03911e6d57a25ec2e50e2077c339beb378a0d338671e22193514", func := "droveway/drovewaylaw02.BrandsFlipped", spec := "brandsFlipped", unfollowed := true, recurses := true, apart := false, narrowed := true }
def BrandsFlippedUptoSaid : Prop := brandsFlippedUptoRow.holds Try.pinned (OpenSpec.upto brandsFlippedSpec)

/-- 'drovewaylaw02.BrandsCatalan', WHERE WHAT IT READS IS OF BULK AT MOST 1048576: true; the input reads as it did. -/
def brandsCatalanUptoRow : OpenClaim := { program := "ytddcdopimpfhcaa", sum := "6bb02f5313ec03911e6d57a25ec2e50e2077c339beb378a0d338671e22193514", func := "droveway/drovewaylaw02.BrandsCatalan", spec := "brandsCatalan", unfollowed := true, recurses := true, apart := false, narrowed := true }
def BrandsCatalanUptoSaid : Prop := brandsCatalanUptoRow.holds Try.pinned (OpenSpec.upto brandsCatalanSpec)

/-- 'drovewaylaw02.BrandsParts', WHERE WHAT IT READS IS OF BULK AT MOST 1048576: true; the input reads as it did. -/
def brandsPartsUptoRow : OpenClaim := { program := "ytddcdopimpfhcaa", sum := "6bb02f5313ec03911e6d57a25ec2e50e2077c339beb378a0d338671e22193514", func := "droveway/drovewaylaw02.BrandsParts", spec := "brandsParts", unfollowed := true, recurses := true, apart := false, narrowed := true }
def BrandsPartsUptoSaid : Prop := brandsPartsUptoRow.holds Try.pinned (OpenSpec.upto brandsPartsSpec)

/-- 'drovewaylaw02.BrandsBroline', WHERE WHAT IT READS IS OF BULK AT MOST 1048576: true; the input reads as it did. -/
def brandsBrolineUptoRow : OpenClaim := { program := "ytddcdopimpfhcaa", sum := "6bb02f5313ec03911e6d57a25ec2e50e2077c339beb378a0d338671e22193514", func := "droveway/drovewaylaw02.BrandsBroline", spec := "brandsBroline", unfollowed := true, recurses := true, apart := false, narrowed := true }
def BrandsBrolineUptoSaid : Prop := brandsBrolineUptoRow.holds Try.pinned (OpenSpec.upto brandsBrolineSpec)

/-- 'drovewaylaw02.BrandsPtolemy', WHERE WHAT IT READS IS OF BULK AT MOST 1048576: true; the input reads as it did. -/
def brandsPtolemyUptoRow : OpenClaim := { program := "ytddcdopimpfhcaa", sum := "6bb02f5313ec03911e6d57a25ec2e50e2077c339beb378a0d338671e22193514", func := "droveway/drovewaylaw02.BrandsPtolemy", spec := "brandsPtolemy", unfollowed := true, recurses := true, apart := false, narrowed := true }
def BrandsPtolemyUptoSaid : Prop := brandsPtolemyUptoRow.holds Try.pinned (OpenSpec.upto brandsPtolemySpec)

/-- 'drovewaylaw02.BrandsFriezes', WHERE WHAT IT READS IS OF BULK AT MOST 1048576: true; the input reads as it did. -/
def brandsFriezesUptoRow : OpenClaim := { program := "ytddcdopimpfhcaa", sum := "6bb02f5313ec03911e6d57a25ec2e50e2077c339beb378a0d338671e22193514", func := "droveway/drovewaylaw02.BrandsFriezes", spec := "brandsFriezes", unfollowed := true, recurses := true, apart := false, narrowed := true }
def BrandsFriezesUptoSaid : Prop := brandsFriezesUptoRow.holds Try.pinned (OpenSpec.upto brandsFriezesSpec)

/-- 'drovewaylaw02.BrandsBetween', WHERE WHAT IT READS IS OF BULK AT MOST 1048576: true; the input reads as it did. -/
def brandsBetweenUptoRow : OpenClaim := { program := "ytddcdopimpfhcaa", sum := "6bb02f5313ec03911e6d57a25ec2e50e2077c339beb378a0d338671e22193514", func := "droveway/drovewaylaw02.BrandsBetween", spec := "brandsBetween", unfollowed := true, recurses := true, apart := false, narrowed := true }
def BrandsBetweenUptoSaid : Prop := brandsBetweenUptoRow.holds Try.pinned (OpenSpec.upto brandsBetweenSpec)

/-- 'drovewaylaw02.BrandsOf', WHERE WHAT IT READS IS OF BULK AT MOST 1048576: true; the input reads as it did. -/
def brandsOfUptoRow : OpenClaim := { program := "ytddcdopimpfhcaa", sum := "6bb02f5313ec03911e6d57a25ec2e50e2077c339beb378a0d338671e22193514", func := "droveway/drovewaylaw02.BrandsOf", spec := "brandsOf", unfollowed := true, recurses := true, apart := false, narrowed := true }
def BrandsOfUptoSaid : Prop := brandsOfUptoRow.holds Try.pinned (OpenSpec.upto brandsOfSpec)

/-- 'drovewaylaw02.BrandsConway', WHERE WHAT IT READS IS OF BULK AT MOST 1048576: true; the input reads as it did. -/
def brandsConwayUptoRow : OpenClaim := { program := "ytddcdopimpfhcaa", sum := "6bb02f5313ec03911e6d57a25ec2e50e2077c339beb378a0d338671e22193514", func := "droveway/drovewaylaw02.BrandsConway", spec := "brandsConway", unfollowed := true, recurses := true, apart := false, narrowed := true }
def BrandsConwayUptoSaid : Prop := brandsConwayUptoRow.holds Try.pinned (OpenSpec.upto brandsConwaySpec)

/-- 'drovewaylaw02.BrandsCuts', WHERE WHAT IT READS IS OF BULK AT MOST 1048576: true; the input reads as it did. -/
def brandsCutsUptoRow : OpenClaim := { program := "ytddcdopimpfhcaa", sum := "6bb02f5313ec03911e6d57a25ec2e50e2077c339beb378a0d338671e22193514", func := "droveway/drovewaylaw02.BrandsCuts", spec := "brandsCuts", inPlace := ["slices.overlaps[int]"], unfollowed := true, recurses := true, apart := false, narrowed := true }
def BrandsCutsUptoSaid : Prop := brandsCutsUptoRow.holds Try.pinned (OpenSpec.upto brandsCutsSpec)

/-- 'drovewaylaw02.BrandsEars', WHERE WHAT IT READS IS OF BULK AT MOST 1048576: true; the input reads as it did. -/
def brandsEarsUptoRow : OpenClaim := { program := "ytddcdopimpfhcaa", sum := "6bb02f5313ec03911e6d57a25ec2e50e2077c339beb378a0d338671e22193514", func := "droveway/drovewaylaw02.BrandsEars", spec := "brandsEars", inPlace := ["slices.overlaps[int]"], unfollowed := true, recurses := true, apart := false, narrowed := true }
def BrandsEarsUptoSaid : Prop := brandsEarsUptoRow.holds Try.pinned (OpenSpec.upto brandsEarsSpec)

end Rows
end Go.Proofs.Ytddcdopimpfhcaa
