/-
  No cell of these rows narrows 'for every input' (looked for: loops, veiled, ifaces, maps, wideKeys, modest, calm, conditions, laid).
  DERIVED. THE GIVEN ROWS OF THIS SEAT. 15 by the template 'for every input the law returns true; each argument reads behind the call as it read before'; 0 by the template 'total and deterministic' (their statements: YtaeicclhopehaaaTotals.lean).
  GIVEN WITH THE SEED: the statements are not yours to turn. If you find one false, say at which input.
  Laid BY PROGRAM, IN A SANDBOX (cutbox-rows.mjs): the forced cells as the released guide's own fill.sh prints them over the translation 534d447ae6f54832… (all of the seat's roots in one cut). By AI agents, Wed Nov 11 2026. No macro, syntax, notation, axiom, sorry.
-/
import Derived.Test.YtaeicclhopehaaaChecked
import GoSem.Claim
import GoSem.ClaimJoined
import GoSem.ClaimMapViews
import Derived.JoinedTies
import Derived.KernelRfl
namespace Go.Proofs.Ytaeicclhopehaaa
/- THE CELL 'sum', in the pinned program and in every row, IS THE sha256 OF THE DUMP (.gsa) THAT YtaeicclhopehaaaProg.lean LOADS. Nothing in Lean hashes anything: it is a label: what it is worth is what the hold of that sum in a sandbox is worth. -/
noncomputable def Try.pinned : Pinned := { name := "ytaeicclhopehaaa", sum := "534d447ae6f54832fbef5fd0e3fc30fa2f307a6652e7a4d4fdabb04accef08b5", checked := Try.checked }
namespace Rows
def none {H : Type} : Left H := { results := [], args := [] }

/-- 'pylonlaw23.StepEndpoints': WHATEVER THE INPUT: true; the input reads as it did. -/
def stepEndpointsSpec : ChangeSpec := { name := "stepEndpoints", fn := fun _ => fun
  | [d] => { results := [.lit (.bool true)], args := [d] }
  | _ => none }
def stepEndpointsRow : OpenClaim := { program := "ytaeicclhopehaaa", sum := "534d447ae6f54832fbef5fd0e3fc30fa2f307a6652e7a4d4fdabb04accef08b5", func := "pylon/pylonlaw23.StepEndpoints", spec := "stepEndpoints", unfollowed := true, recurses := true, apart := false }
def StepEndpointsSaid : Prop := stepEndpointsRow.holds Try.pinned (OpenSpec.ofChange stepEndpointsSpec)

/-- ITS FALSE NEIGHBOUR: 'it returns false'. Refute it at one input. -/
def stepEndpointsWrong : ChangeSpec := { name := "stepEndpoints", fn := fun _ => fun
  | [d] => { results := [.lit (.bool false)], args := [d] }
  | _ => none }
def StepEndpointsWrongFalsely : Prop := stepEndpointsRow.holds Try.pinned (OpenSpec.ofChange stepEndpointsWrong)

/-- 'pylonlaw23.StepMonotone': WHATEVER THE INPUT: true; the input reads as it did. -/
def stepMonotoneSpec : ChangeSpec := { name := "stepMonotone", fn := fun _ => fun
  | [d1, d2, d3] => { results := [.lit (.bool true)], args := [d1, d2, d3] }
  | _ => none }
def stepMonotoneRow : OpenClaim := { program := "ytaeicclhopehaaa", sum := "534d447ae6f54832fbef5fd0e3fc30fa2f307a6652e7a4d4fdabb04accef08b5", func := "pylon/pylonlaw23.StepMonotone", spec := "stepMonotone", unfollowed := true, recurses := true, apart := false }
def StepMonotoneSaid : Prop := stepMonotoneRow.holds Try.pinned (OpenSpec.ofChange stepMonotoneSpec)

/-- ITS FALSE NEIGHBOUR: 'it returns false'. Refute it at one input. -/
def stepMonotoneWrong : ChangeSpec := { name := "stepMonotone", fn := fun _ => fun
  | [d1, d2, d3] => { results := [.lit (.bool false)], args := [d1, d2, d3] }
  | _ => none }
def StepMonotoneWrongFalsely : Prop := stepMonotoneRow.holds Try.pinned (OpenSpec.ofChange stepMonotoneWrong)

/-- 'pylonlaw23.StepOptimalQuantities': WHATEVER THE INPUT: true; the input reads as it did. -/
def stepOptimalQuantitiesSpec : ChangeSpec := { name := "stepOptimalQuantities", fn := fun _ => fun
  | [d1, d2, d3] => { results := [.lit (.bool true)], args := [d1, d2, d3] }
  | _ => none }
def stepOptimalQuantitiesRow : OpenClaim := { program := "ytaeicclhopehaaa", sum := "534d447ae6f54832fbef5fd0e3fc30fa2f307a6652e7a4d4fdabb04accef08b5", func := "pylon/pylonlaw23.StepOptimalQuantities", spec := "stepOptimalQuantities", unfollowed := true, recurses := true, apart := false }
def StepOptimalQuantitiesSaid : Prop := stepOptimalQuantitiesRow.holds Try.pinned (OpenSpec.ofChange stepOptimalQuantitiesSpec)

/-- ITS FALSE NEIGHBOUR: 'it returns false'. Refute it at one input. -/
def stepOptimalQuantitiesWrong : ChangeSpec := { name := "stepOptimalQuantities", fn := fun _ => fun
  | [d1, d2, d3] => { results := [.lit (.bool false)], args := [d1, d2, d3] }
  | _ => none }
def StepOptimalQuantitiesWrongFalsely : Prop := stepOptimalQuantitiesRow.holds Try.pinned (OpenSpec.ofChange stepOptimalQuantitiesWrong)

/-- 'pylonlaw23.StepFillingOrder': WHATEVER THE INPUT: true; the input reads as it did. -/
def stepFillingOrderSpec : ChangeSpec := { name := "stepFillingOrder", fn := fun _ => fun
  | [d1, d2] => { results := [.lit (.bool true)], args := [d1, d2] }
  | _ => none }
def stepFillingOrderRow : OpenClaim := { program := "ytaeicclhopehaaa", sum := "534d447ae6f54832fbef5fd0e3fc30fa2f307a6652e7a4d4fdabb04accef08b5", func := "pylon/pylonlaw23.StepFillingOrder", spec := "stepFillingOrder", unfollowed := true, recurses := true, apart := false }
def StepFillingOrderSaid : Prop := stepFillingOrderRow.holds Try.pinned (OpenSpec.ofChange stepFillingOrderSpec)

/-- ITS FALSE NEIGHBOUR: 'it returns false'. Refute it at one input. -/
def stepFillingOrderWrong : ChangeSpec := { name := "stepFillingOrder", fn := fun _ => fun
  | [d1, d2] => { results := [.lit (.bool false)], args := [d1, d2] }
  | _ => none }
def StepFillingOrderWrongFalsely : Prop := stepFillingOrderRow.holds Try.pinned (OpenSpec.ofChange stepFillingOrderWrong)

/-- 'pylonlaw27.PathDynamicProgramming': WHATEVER THE INPUT: true; the input reads as it did. -/
def pathDynamicProgrammingSpec : ChangeSpec := { name := "pathDynamicProgramming", fn := fun _ => fun
  | [d1, d2, d3] => { results := [.lit (.bool true)], args := [d1, d2, d3] }
  | _ => none }
def pathDynamicProgrammingRow : OpenClaim := { program := "ytaeicclhopehaaa", sum := "534d447ae6f54832fbef5fd0e3fc30fa2f307a6652e7a4d4fdabb04accef08b5", func := "pylon/pylonlaw27.PathDynamicProgramming", spec := "pathDynamicProgramming", unfollowed := true, recurses := true, apart := false }
def PathDynamicProgrammingSaid : Prop := pathDynamicProgrammingRow.holds Try.pinned (OpenSpec.ofChange pathDynamicProgrammingSpec)

/-- ITS FALSE NEIGHBOUR: 'it returns false'. Refute it at one input. -/
def pathDynamicProgrammingWrong : ChangeSpec := { name := "pathDynamicProgramming", fn := fun _ => fun
  | [d1, d2, d3] => { results := [.lit (.bool false)], args := [d1, d2, d3] }
  | _ => none }
def PathDynamicProgrammingWrongFalsely : Prop := pathDynamicProgrammingRow.holds Try.pinned (OpenSpec.ofChange pathDynamicProgrammingWrong)

/-- 'pylonlaw23.StepConvexity': WHATEVER THE INPUT: true; the input reads as it did. -/
def stepConvexitySpec : ChangeSpec := { name := "stepConvexity", fn := fun _ => fun
  | [d1, d2, d3] => { results := [.lit (.bool true)], args := [d1, d2, d3] }
  | _ => none }
def stepConvexityRow : OpenClaim := { program := "ytaeicclhopehaaa", sum := "534d447ae6f54832fbef5fd0e3fc30fa2f307a6652e7a4d4fdabb04accef08b5", func := "pylon/pylonlaw23.StepConvexity", spec := "stepConvexity", unfollowed := true, recurses := true, apart := false }
def StepConvexitySaid : Prop := stepConvexityRow.holds Try.pinned (OpenSpec.ofChange stepConvexitySpec)

/-- ITS FALSE NEIGHBOUR: 'it returns false'. Refute it at one input. -/
def stepConvexityWrong : ChangeSpec := { name := "stepConvexity", fn := fun _ => fun
  | [d1, d2, d3] => { results := [.lit (.bool false)], args := [d1, d2, d3] }
  | _ => none }
def StepConvexityWrongFalsely : Prop := stepConvexityRow.holds Try.pinned (OpenSpec.ofChange stepConvexityWrong)

/-- 'pylonlaw27.PathHigherPrices': WHATEVER THE INPUT: true; the input reads as it did. -/
def pathHigherPricesSpec : ChangeSpec := { name := "pathHigherPrices", fn := fun _ => fun
  | [d1, d2, d3] => { results := [.lit (.bool true)], args := [d1, d2, d3] }
  | _ => none }
def pathHigherPricesRow : OpenClaim := { program := "ytaeicclhopehaaa", sum := "534d447ae6f54832fbef5fd0e3fc30fa2f307a6652e7a4d4fdabb04accef08b5", func := "pylon/pylonlaw27.PathHigherPrices", spec := "pathHigherPrices", unfollowed := true, recurses := true, apart := false }
def PathHigherPricesSaid : Prop := pathHigherPricesRow.holds Try.pinned (OpenSpec.ofChange pathHigherPricesSpec)

/-- ITS FALSE NEIGHBOUR: 'it returns false'. Refute it at one input. -/
def pathHigherPricesWrong : ChangeSpec := { name := "pathHigherPrices", fn := fun _ => fun
  | [d1, d2, d3] => { results := [.lit (.bool false)], args := [d1, d2, d3] }
  | _ => none }
def PathHigherPricesWrongFalsely : Prop := pathHigherPricesRow.holds Try.pinned (OpenSpec.ofChange pathHigherPricesWrong)

/-- 'pylonlaw23.StepExamples': WHATEVER THE INPUT: true; the input reads as it did. -/
def stepExamplesSpec : ChangeSpec := { name := "stepExamples", fn := fun _ => fun
  | [] => { results := [.lit (.bool true)], args := [] }
  | _ => none }
def stepExamplesRow : OpenClaim := { program := "ytaeicclhopehaaa", sum := "534d447ae6f54832fbef5fd0e3fc30fa2f307a6652e7a4d4fdabb04accef08b5", func := "pylon/pylonlaw23.StepExamples", spec := "stepExamples", unfollowed := true, recurses := true, apart := false }
def StepExamplesSaid : Prop := stepExamplesRow.holds Try.pinned (OpenSpec.ofChange stepExamplesSpec)

/-- ITS FALSE NEIGHBOUR: 'it returns false'. Refute it at one input. -/
def stepExamplesWrong : ChangeSpec := { name := "stepExamples", fn := fun _ => fun
  | [] => { results := [.lit (.bool false)], args := [] }
  | _ => none }
def StepExamplesWrongFalsely : Prop := stepExamplesRow.holds Try.pinned (OpenSpec.ofChange stepExamplesWrong)

/-- 'pylonlaw23.StepNegation': WHATEVER THE INPUT: true; the input reads as it did. -/
def stepNegationSpec : ChangeSpec := { name := "stepNegation", fn := fun _ => fun
  | [d1, d2, d3] => { results := [.lit (.bool true)], args := [d1, d2, d3] }
  | _ => none }
def stepNegationRow : OpenClaim := { program := "ytaeicclhopehaaa", sum := "534d447ae6f54832fbef5fd0e3fc30fa2f307a6652e7a4d4fdabb04accef08b5", func := "pylon/pylonlaw23.StepNegation", spec := "stepNegation", unfollowed := true, recurses := true, apart := false }
def StepNegationSaid : Prop := stepNegationRow.holds Try.pinned (OpenSpec.ofChange stepNegationSpec)

/-- ITS FALSE NEIGHBOUR: 'it returns false'. Refute it at one input. -/
def stepNegationWrong : ChangeSpec := { name := "stepNegation", fn := fun _ => fun
  | [d1, d2, d3] => { results := [.lit (.bool false)], args := [d1, d2, d3] }
  | _ => none }
def StepNegationWrongFalsely : Prop := stepNegationRow.holds Try.pinned (OpenSpec.ofChange stepNegationWrong)

/-- 'pylonlaw37.UpliftRecovers': WHATEVER THE INPUT: true; the input reads as it did. -/
def upliftRecoversSpec : ChangeSpec := { name := "upliftRecovers", fn := fun _ => fun
  | [d1, d2] => { results := [.lit (.bool true)], args := [d1, d2] }
  | _ => none }
def upliftRecoversRow : OpenClaim := { program := "ytaeicclhopehaaa", sum := "534d447ae6f54832fbef5fd0e3fc30fa2f307a6652e7a4d4fdabb04accef08b5", func := "pylon/pylonlaw37.UpliftRecovers", spec := "upliftRecovers", unfollowed := true, recurses := true, apart := false }
def UpliftRecoversSaid : Prop := upliftRecoversRow.holds Try.pinned (OpenSpec.ofChange upliftRecoversSpec)

/-- ITS FALSE NEIGHBOUR: 'it returns false'. Refute it at one input. -/
def upliftRecoversWrong : ChangeSpec := { name := "upliftRecovers", fn := fun _ => fun
  | [d1, d2] => { results := [.lit (.bool false)], args := [d1, d2] }
  | _ => none }
def UpliftRecoversWrongFalsely : Prop := upliftRecoversRow.holds Try.pinned (OpenSpec.ofChange upliftRecoversWrong)

/-- 'pylonlaw37.UpliftMonotone': WHATEVER THE INPUT: true; the input reads as it did. -/
def upliftMonotoneSpec : ChangeSpec := { name := "upliftMonotone", fn := fun _ => fun
  | [d1, d2, d3] => { results := [.lit (.bool true)], args := [d1, d2, d3] }
  | _ => none }
def upliftMonotoneRow : OpenClaim := { program := "ytaeicclhopehaaa", sum := "534d447ae6f54832fbef5fd0e3fc30fa2f307a6652e7a4d4fdabb04accef08b5", func := "pylon/pylonlaw37.UpliftMonotone", spec := "upliftMonotone", unfollowed := true, recurses := true, apart := false }
def UpliftMonotoneSaid : Prop := upliftMonotoneRow.holds Try.pinned (OpenSpec.ofChange upliftMonotoneSpec)

/-- ITS FALSE NEIGHBOUR: 'it returns false'. Refute it at one input. -/
def upliftMonotoneWrong : ChangeSpec := { name := "upliftMonotone", fn := fun _ => fun
  | [d1, d2, d3] => { results := [.lit (.bool false)], args := [d1, d2, d3] }
  | _ => none }
def UpliftMonotoneWrongFalsely : Prop := upliftMonotoneRow.holds Try.pinned (OpenSpec.ofChange upliftMonotoneWrong)

/-- 'pylonlaw37.UpliftSplitDay': WHATEVER THE INPUT: true; the input reads as it did. -/
def upliftSplitDaySpec : ChangeSpec := { name := "upliftSplitDay", fn := fun _ => fun
  | [d1, d2, d3, d4, d5] => { results := [.lit (.bool true)], args := [d1, d2, d3, d4, d5] }
  | _ => none }
def upliftSplitDayRow : OpenClaim := { program := "ytaeicclhopehaaa", sum := "534d447ae6f54832fbef5fd0e3fc30fa2f307a6652e7a4d4fdabb04accef08b5", func := "pylon/pylonlaw37.UpliftSplitDay", spec := "upliftSplitDay", unfollowed := true, recurses := true, apart := false }
def UpliftSplitDaySaid : Prop := upliftSplitDayRow.holds Try.pinned (OpenSpec.ofChange upliftSplitDaySpec)

/-- ITS FALSE NEIGHBOUR: 'it returns false'. Refute it at one input. -/
def upliftSplitDayWrong : ChangeSpec := { name := "upliftSplitDay", fn := fun _ => fun
  | [d1, d2, d3, d4, d5] => { results := [.lit (.bool false)], args := [d1, d2, d3, d4, d5] }
  | _ => none }
def UpliftSplitDayWrongFalsely : Prop := upliftSplitDayRow.holds Try.pinned (OpenSpec.ofChange upliftSplitDayWrong)

/-- 'pylonlaw27.PathHigherCosts': WHATEVER THE INPUT: true; the input reads as it did. -/
def pathHigherCostsSpec : ChangeSpec := { name := "pathHigherCosts", fn := fun _ => fun
  | [d1, d2, d3, d4] => { results := [.lit (.bool true)], args := [d1, d2, d3, d4] }
  | _ => none }
def pathHigherCostsRow : OpenClaim := { program := "ytaeicclhopehaaa", sum := "534d447ae6f54832fbef5fd0e3fc30fa2f307a6652e7a4d4fdabb04accef08b5", func := "pylon/pylonlaw27.PathHigherCosts", spec := "pathHigherCosts", unfollowed := true, recurses := true, apart := false }
def PathHigherCostsSaid : Prop := pathHigherCostsRow.holds Try.pinned (OpenSpec.ofChange pathHigherCostsSpec)

/-- ITS FALSE NEIGHBOUR: 'it returns false'. Refute it at one input. -/
def pathHigherCostsWrong : ChangeSpec := { name := "pathHigherCosts", fn := fun _ => fun
  | [d1, d2, d3, d4] => { results := [.lit (.bool false)], args := [d1, d2, d3, d4] }
  | _ => none }
def PathHigherCostsWrongFalsely : Prop := pathHigherCostsRow.holds Try.pinned (OpenSpec.ofChange pathHigherCostsWrong)

/-- 'pylonlaw27.PathHourOptimal': WHATEVER THE INPUT: true; the input reads as it did. -/
def pathHourOptimalSpec : ChangeSpec := { name := "pathHourOptimal", fn := fun _ => fun
  | [d1, d2, d3] => { results := [.lit (.bool true)], args := [d1, d2, d3] }
  | _ => none }
def pathHourOptimalRow : OpenClaim := { program := "ytaeicclhopehaaa", sum := "534d447ae6f54832fbef5fd0e3fc30fa2f307a6652e7a4d4fdabb04accef08b5", func := "pylon/pylonlaw27.PathHourOptimal", spec := "pathHourOptimal", unfollowed := true, recurses := true, apart := false }
def PathHourOptimalSaid : Prop := pathHourOptimalRow.holds Try.pinned (OpenSpec.ofChange pathHourOptimalSpec)

/-- ITS FALSE NEIGHBOUR: 'it returns false'. Refute it at one input. -/
def pathHourOptimalWrong : ChangeSpec := { name := "pathHourOptimal", fn := fun _ => fun
  | [d1, d2, d3] => { results := [.lit (.bool false)], args := [d1, d2, d3] }
  | _ => none }
def PathHourOptimalWrongFalsely : Prop := pathHourOptimalRow.holds Try.pinned (OpenSpec.ofChange pathHourOptimalWrong)

/-- 'pylonlaw27.PathOptimality': WHATEVER THE INPUT: true; the input reads as it did. -/
def pathOptimalitySpec : ChangeSpec := { name := "pathOptimality", fn := fun _ => fun
  | [d1, d2, d3] => { results := [.lit (.bool true)], args := [d1, d2, d3] }
  | _ => none }
def pathOptimalityRow : OpenClaim := { program := "ytaeicclhopehaaa", sum := "534d447ae6f54832fbef5fd0e3fc30fa2f307a6652e7a4d4fdabb04accef08b5", func := "pylon/pylonlaw27.PathOptimality", spec := "pathOptimality", unfollowed := true, recurses := true, apart := false }
def PathOptimalitySaid : Prop := pathOptimalityRow.holds Try.pinned (OpenSpec.ofChange pathOptimalitySpec)

/-- ITS FALSE NEIGHBOUR: 'it returns false'. Refute it at one input. -/
def pathOptimalityWrong : ChangeSpec := { name := "pathOptimality", fn := fun _ => fun
  | [d1, d2, d3] => { results := [.lit (.bool false)], args := [d1, d2, d3] }
  | _ => none }
def PathOptimalityWrongFalsely : Prop := pathOptimalityRow.holds Try.pinned (OpenSpec.ofChange pathOptimalityWrong)

/- THE SECOND FORM. 'bulk': how many values and letters a reading holds, each counted each time it is reached (what is shared counts as often as it is met; a slice's spare places count too). A statement '..UptoSaid' is the law's where the arguments, and the package variables that the reading takes, are together of bulk at most 1048576: NARROWER than '..Said'. Prove '..Said' where nothing that the law and all that it calls make is longer than what came in: it says more and counts as full. Else prove '..UptoSaid'. A law counts once. -/
mutual
def uptoBulk {H : Type} : DataW H → Nat
  | .lit (.string bytes) => bytes.length + 1
  | .lit _ => 1
  | .nil => 1
  | .ptr d => uptoBulk d + 1
  | .slice elems spare => uptoBulkAll elems + uptoBulkAll spare + 1
  | .agg parts => uptoBulkAll parts + 1
  | .iface _ d => uptoBulk d + 1
  | .map entries => uptoBulkEntries entries + 1
  | .held _ => 1
def uptoBulkAll {H : Type} : List (DataW H) → Nat
  | [] => 0
  | d :: r => uptoBulk d + uptoBulkAll r
def uptoBulkEntries {H : Type} : List (Lit × DataW H) → Nat
  | [] => 0
  | x :: r => uptoBulkEntry x + uptoBulkEntries r
def uptoBulkEntry {H : Type} : Lit × DataW H → Nat
  | (.string bytes, d) => bytes.length + uptoBulk d + 1
  | (_, d) => uptoBulk d + 1
 end
def uptoSmall : (H : Type) → List (DataW H) → Bool := fun _ ds => decide (uptoBulkAll ds ≤ 1048576)
def OpenSpec.upto (s : _root_.Go.ChangeSpec) : _root_.Go.OpenSpec := { _root_.Go.OpenSpec.ofChange s with cond := some uptoSmall }

/-- 'pylonlaw23.StepEndpoints', WHERE WHAT IT READS IS OF BULK AT MOST 1048576: true; the input reads as it did. -/
def stepEndpointsUptoRow : OpenClaim := { program := "ytaeicclhopehaaa", sum := "534d447ae6f54832fbef5fd0e3fc30fa2f307a6652e7a4d4fdabb04accef08b5", func := "pylon/pylonlaw23.StepEndpoints", spec := "stepEndpoints", unfollowed := true, recurses := true, apart := false, narrowed := true }
def StepEndpointsUptoSaid : Prop := stepEndpointsUptoRow.holds Try.pinned (OpenSpec.upto stepEndpointsSpec)

/-- 'pylonlaw23.StepMonotone', WHERE WHAT IT READS IS OF BULK AT MOST 1048576: true; the input reads as it did. -/
def stepMonotoneUptoRow : OpenClaim := { program := "ytaeicclhopehaaa", sum := "534d447ae6f54832fbef5fd0e3fc30fa2f307a6652e7a4d4fdabb04accef08b5", func := "pylon/pylonlaw23.StepMonotone", spec := "stepMonotone", unfollowed := true, recurses := true, apart := false, narrowed := true }
def StepMonotoneUptoSaid : Prop := stepMonotoneUptoRow.holds Try.pinned (OpenSpec.upto stepMonotoneSpec)

/-- 'pylonlaw23.StepOptimalQuantities', WHERE WHAT IT READS IS OF BULK AT MOST 1048576: true; the input reads as it did. -/
def stepOptimalQuantitiesUptoRow : OpenClaim := { program := "ytaeicclhopehaaa", sum := "534d447ae6f54832fbef5fd0e3fc30fa2f307a6652e7a4d4fdabb04accef08b5", func := "pylon/pylonlaw23.StepOptimalQuantities", spec := "stepOptimalQuantities", unfollowed := true, recurses := true, apart := false, narrowed := true }
def StepOptimalQuantitiesUptoSaid : Prop := stepOptimalQuantitiesUptoRow.holds Try.pinned (OpenSpec.upto stepOptimalQuantitiesSpec)

/-- 'pylonlaw23.StepFillingOrder', WHERE WHAT IT READS IS OF BULK AT MOST 1048576: true; the input reads as it did. -/
def stepFillingOrderUptoRow : OpenClaim := { program := "ytaeicclhopehaaa", sum := "534d447ae6f54832fbef5fd0e3fc30fa2f307a6652e7a4d4fdabb04accef08b5", func := "pylon/pylonlaw23.StepFillingOrder", spec := "stepFillingOrder", unfollowed := true, recurses := true, apart := false, narrowed := true }
def StepFillingOrderUptoSaid : Prop := stepFillingOrderUptoRow.holds Try.pinned (OpenSpec.upto stepFillingOrderSpec)

/-- 'pylonlaw27.PathDynamicProgramming', WHERE WHAT IT READS IS OF BULK AT MOST 1048576: true; the input reads as it did. -/
def pathDynamicProgrammingUptoRow : OpenClaim := { program := "ytaeicclhopehaaa", sum := "534d447ae6f54832fbef5fd0e3fc30fa2f307a6652e7a4d4fdabb04accef08b5", func := "pylon/pylonlaw27.PathDynamicProgramming", spec := "pathDynamicProgramming", unfollowed := true, recurses := true, apart := false, narrowed := true }
def PathDynamicProgrammingUptoSaid : Prop := pathDynamicProgrammingUptoRow.holds Try.pinned (OpenSpec.upto pathDynamicProgrammingSpec)

/-- 'pylonlaw23.StepConvexity', WHERE WHAT IT READS IS OF BULK AT MOST 1048576: true; the input reads as it did. -/
def stepConvexityUptoRow : OpenClaim := { program := "ytaeicclhopehaaa", sum := "534d447ae6f54832fbef5fd0e3fc30fa2f307a6652e7a4d4fdabb04accef08b5", func := "pylon/pylonlaw23.StepConvexity", spec := "stepConvexity", unfollowed := true, recurses := true, apart := false, narrowed := true }
def StepConvexityUptoSaid : Prop := stepConvexityUptoRow.holds Try.pinned (OpenSpec.upto stepConvexitySpec)

/-- 'pylonlaw27.PathHigherPrices', WHERE WHAT IT READS IS OF BULK AT MOST 1048576: true; the input reads as it did. -/
def pathHigherPricesUptoRow : OpenClaim := { program := "ytaeicclhopehaaa", sum := "534d447ae6f54832fbef5fd0e3fc30fa2f307a6652e7a4d4fdabb04accef08b5", func := "pylon/pylonlaw27.PathHigherPrices", spec := "pathHigherPrices", unfollowed := true, recurses := true, apart := false, narrowed := true }
def PathHigherPricesUptoSaid : Prop := pathHigherPricesUptoRow.holds Try.pinned (OpenSpec.upto pathHigherPricesSpec)

/-- 'pylonlaw23.StepExamples', WHERE WHAT IT READS IS OF BULK AT MOST 1048576: true; the input reads as it did. -/
def stepExamplesUptoRow : OpenClaim := { program := "ytaeicclhopehaaa", sum := "534d447ae6f54832fbef5fd0e3fc30fa2f307a6652e7a4d4fdabb04accef08b5", func := "pylon/pylonlaw23.StepExamples", spec := "stepExamples", unfollowed := true, recurses := true, apart := false, narrowed := true }
def StepExamplesUptoSaid : Prop := stepExamplesUptoRow.holds Try.pinned (OpenSpec.upto stepExamplesSpec)

/-- 'pylonlaw23.StepNegation', WHERE WHAT IT READS IS OF BULK AT MOST 1048576: true; the input reads as it did. -/
def stepNegationUptoRow : OpenClaim := { program := "ytaeicclhopehaaa", sum := "534d447ae6f54832fbef5fd0e3fc30fa2f307a6652e7a4d4fdabb04accef08b5", func := "pylon/pylonlaw23.StepNegation", spec := "stepNegation", unfollowed := true, recurses := true, apart := false, narrowed := true }
def StepNegationUptoSaid : Prop := stepNegationUptoRow.holds Try.pinned (OpenSpec.upto stepNegationSpec)

/-- 'pylonlaw37.UpliftRecovers', WHERE WHAT IT READS IS OF BULK AT MOST 1048576: true; the input reads as it did. -/
def upliftRecoversUptoRow : OpenClaim := { program := "ytaeicclhopehaaa", sum := "534d447ae6f54832fbef5fd0e3fc30fa2f307a6652e7a4d4fdabb04accef08b5", func := "pylon/pylonlaw37.UpliftRecovers", spec := "upliftRecovers", unfollowed := true, recurses := true, apart := false, narrowed := true }
def UpliftRecoversUptoSaid : Prop := upliftRecoversUptoRow.holds Try.pinned (OpenSpec.upto upliftRecoversSpec)

/-- 'pylonlaw37.UpliftMonotone', WHERE WHAT IT READS IS OF BULK AT MOST 1048576: true; the input reads as it did. -/
def upliftMonotoneUptoRow : OpenClaim := { program := "ytaeicclhopehaaa", sum := "534d447ae6f54832fbef5fd0e3fc30fa2f307a6652e7a4d4fdabb04accef08b5", func := "pylon/pylonlaw37.UpliftMonotone", spec := "upliftMonotone", unfollowed := true, recurses := true, apart := false, narrowed := true }
def UpliftMonotoneUptoSaid : Prop := upliftMonotoneUptoRow.holds Try.pinned (OpenSpec.upto upliftMonotoneSpec)

/-- 'pylonlaw37.UpliftSplitDay', WHERE WHAT IT READS IS OF BULK AT MOST 1048576: true; the input reads as it did. -/
def upliftSplitDayUptoRow : OpenClaim := { program := "ytaeicclhopehaaa", sum := "534d447ae6f54832fbef5fd0e3fc30fa2f307a6652e7a4d4fdabb04accef08b5", func := "pylon/pylonlaw37.UpliftSplitDay", spec := "upliftSplitDay", unfollowed := true, recurses := true, apart := false, narrowed := true }
def UpliftSplitDayUptoSaid : Prop := upliftSplitDayUptoRow.holds Try.pinned (OpenSpec.upto upliftSplitDaySpec)

/-- 'pylonlaw27.PathHigherCosts', WHERE WHAT IT READS IS OF BULK AT MOST 1048576: true; the input reads as it did. -/
def pathHigherCostsUptoRow : OpenClaim := { program := "ytaeicclhopehaaa", sum := "534d447ae6f54832fbef5fd0e3fc30fa2f307a6652e7a4d4fdabb04accef08b5", func := "pylon/pylonlaw27.PathHigherCosts", spec := "pathHigherCosts", unfollowed := true, recurses := true, apart := false, narrowed := true }
def PathHigherCostsUptoSaid : Prop := pathHigherCostsUptoRow.holds Try.pinned (OpenSpec.upto pathHigherCostsSpec)

/-- 'pylonlaw27.PathHourOptimal', WHERE WHAT IT READS IS OF BULK AT MOST 1048576: true; the input reads as it did. -/
def pathHourOptimalUptoRow : OpenClaim := { program := "ytaeicclhopehaaa", sum := "534d447ae6f54832fbef5fd0e3fc30fa2f307a6652e7a4d4fdabb04accef08b5", func := "pylon/pylonlaw27.PathHourOptimal", spec := "pathHourOptimal", unfollowed := true, recurses := true, apart := false, narrowed := true }
def PathHourOptimalUptoSaid : Prop := pathHourOptimalUptoRow.holds Try.pinned (OpenSpec.upto pathHourOptimalSpec)

/-- 'pylonlaw27.PathOptimality', WHERE WHAT IT READS IS OF BULK AT MOST 1048576: true; the input reads as it did. -/
def pathOptimalityUptoRow : OpenClaim := { program := "ytaeicclhopehaaa", sum := "534d447ae6f54832fbef5fd0e3fc30fa2f307a6652e7a4d4fdabb04accef08b5", func := "pylon/pylonlaw27.PathOptimality", spec := "pathOptimality", unfollowed := true, recurses := true, apart := false, narrowed := true }
def PathOptimalityUptoSaid : Prop := pathOptimalityUptoRow.holds Try.pinned (OpenSpec.upto pathOptimalitySpec)

end Rows
end Go.Proofs.Ytaeicclhopehaaa
