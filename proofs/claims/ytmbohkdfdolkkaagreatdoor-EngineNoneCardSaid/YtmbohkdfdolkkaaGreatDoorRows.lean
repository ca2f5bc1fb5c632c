/-
  NARROWER THAN 'FOR EVERY INPUT', by the rows' own cells (each row's printed sentence says how): NodeTimes: laid · NodeVotes: laid · NodeStands: laid · EngineNone: laid · ClusterRefuses: laid · ClusterSteps: laid · ClusterNew: laid · ClusterFalls: laid.
  DERIVED. THE GIVEN ROWS OF THIS SEAT. 8 by the template 'for every input the law returns true; each argument reads behind the call as it read before'; 0 by the template 'total and deterministic' (their statements: YtmbohkdfdolkkaaGreatDoorTotals.lean).
  GIVEN WITH THE SEED: the statements are not yours to turn. If you find one false, say at which input.
  Laid BY PROGRAM, IN A SANDBOX (cutbox-rows.mjs): the forced cells as the released guide's own fill.sh prints them over the translation c725801add7a89b4… (all of the seat's roots in one cut). By AI agents, Wed Nov 11 2026. No macro, syntax, notation, axiom, sorry.
-/
import Derived.Test.YtmbohkdfdolkkaaGreatDoorChecked
import GoSem.Claim
import GoSem.ClaimJoined
import GoSem.ClaimMapViews
import Derived.JoinedTies
import Derived.KernelRfl
namespace Go.Proofs.YtmbohkdfdolkkaaGreatDoor
/- THE CELL 'sum', in the pinned program and in every row, IS THE sha256 OF THE DUMP (.gsa) THAT YtmbohkdfdolkkaaGreatDoorProg.lean LOADS. Nothing in Lean hashes anything: it is a label: what it is worth is what the hold of that sum in a sandbox is worth. -/
noncomputable def Tryz.pinned : Pinned := { name := "ytmbohkdfdolkkaagreatdoor", sum := "c725801add7a89b42d1c16b5ee4f80be49b1086b9d7387c05e05e048c2a08d79", checked := Tryz.checked }
namespace Rows
def none {H : Type} : Left H := { results := [], args := [] }

/- WHAT THE LISTED PACKAGE-LEVEL VARIABLES READ AS WHEN THE CALL BEGINS. Each datum BY PROGRAM (the guide's laid-datum.mjs) off the statement by which the dump's own 'gosem.cut.vars' lays the variable. In a bare row this is a premise. The card (YtmbohkdfdolkkaaGreatDoorCards.lean) ties it to the program's text. -/
def laid_math_bits_deBruijn32tab {H : Type} : DataW H := .agg [.lit (.int .u8 0), .lit (.int .u8 1), .lit (.int .u8 28), .lit (.int .u8 2), .lit (.int .u8 29), .lit (.int .u8 14), .lit (.int .u8 24), .lit (.int .u8 3), .lit (.int .u8 30), .lit (.int .u8 22), .lit (.int .u8 20), .lit (.int .u8 15), .lit (.int .u8 25), .lit (.int .u8 17), .lit (.int .u8 4), .lit (.int .u8 8), .lit (.int .u8 31), .lit (.int .u8 27), .lit (.int .u8 13), .lit (.int .u8 23), .lit (.int .u8 21), .lit (.int .u8 19), .lit (.int .u8 16), .lit (.int .u8 7), .lit (.int .u8 26), .lit (.int .u8 12), .lit (.int .u8 18), .lit (.int .u8 6), .lit (.int .u8 11), .lit (.int .u8 5), .lit (.int .u8 10), .lit (.int .u8 9)]
def laid_math_bits_deBruijn64tab {H : Type} : DataW H := .agg [.lit (.int .u8 0), .lit (.int .u8 1), .lit (.int .u8 56), .lit (.int .u8 2), .lit (.int .u8 57), .lit (.int .u8 49), .lit (.int .u8 28), .lit (.int .u8 3), .lit (.int .u8 61), .lit (.int .u8 58), .lit (.int .u8 42), .lit (.int .u8 50), .lit (.int .u8 38), .lit (.int .u8 29), .lit (.int .u8 17), .lit (.int .u8 4), .lit (.int .u8 62), .lit (.int .u8 47), .lit (.int .u8 59), .lit (.int .u8 36), .lit (.int .u8 45), .lit (.int .u8 43), .lit (.int .u8 51), .lit (.int .u8 22), .lit (.int .u8 53), .lit (.int .u8 39), .lit (.int .u8 33), .lit (.int .u8 30), .lit (.int .u8 24), .lit (.int .u8 18), .lit (.int .u8 12), .lit (.int .u8 5), .lit (.int .u8 63), .lit (.int .u8 55), .lit (.int .u8 48), .lit (.int .u8 27), .lit (.int .u8 60), .lit (.int .u8 41), .lit (.int .u8 37), .lit (.int .u8 16), .lit (.int .u8 46), .lit (.int .u8 35), .lit (.int .u8 44), .lit (.int .u8 21), .lit (.int .u8 52), .lit (.int .u8 32), .lit (.int .u8 23), .lit (.int .u8 11), .lit (.int .u8 54), .lit (.int .u8 26), .lit (.int .u8 40), .lit (.int .u8 15), .lit (.int .u8 34), .lit (.int .u8 20), .lit (.int .u8 31), .lit (.int .u8 10), .lit (.int .u8 25), .lit (.int .u8 14), .lit (.int .u8 19), .lit (.int .u8 9), .lit (.int .u8 13), .lit (.int .u8 8), .lit (.int .u8 7), .lit (.int .u8 6)]
def laid_internal_strconv_uint64pow10 {H : Type} : DataW H := .agg [.lit (.int .u64 1), .lit (.int .u64 10), .lit (.int .u64 100), .lit (.int .u64 1000), .lit (.int .u64 10000), .lit (.int .u64 100000), .lit (.int .u64 1000000), .lit (.int .u64 10000000), .lit (.int .u64 100000000), .lit (.int .u64 1000000000), .lit (.int .u64 10000000000), .lit (.int .u64 100000000000), .lit (.int .u64 1000000000000), .lit (.int .u64 10000000000000), .lit (.int .u64 100000000000000), .lit (.int .u64 1000000000000000), .lit (.int .u64 10000000000000000), .lit (.int .u64 100000000000000000), .lit (.int .u64 1000000000000000000), .lit (.int .u64 10000000000000000000)]

/-- 'chroniclelaw23.NodeTimes': WHATEVER THE INPUT: true; the input reads as it did. -/
def nodeTimesSpec : ChangeSpec := { name := "nodeTimes", fn := fun _ => fun
  | [d] => { results := [.lit (.bool true)], args := [d] }
  | _ => none }
def nodeTimesRow : OpenClaim := { program := "ytmbohkdfdolkkaagreatdoor", sum := "c725801add7a89b42d1c16b5ee4f80be49b1086b9d7387c05e05e048c2a08d79", func := "chronicle/chroniclelaw23.NodeTimes", spec := "nodeTimes", inPlace := ["internal/abi.NoEscape", "internal/bytealg.MakeNoZero", "math.Float64frombits", "math.Float64bits", "maps.clone"], unfollowed := true, recurses := true, named := ["internal/strconv.uint64pow10", "math/bits.deBruijn32tab", "math/bits.deBruijn64tab"], plainKeys := false, apart := false, laid := [("math/bits.deBruijn32tab", laid_math_bits_deBruijn32tab), ("math/bits.deBruijn64tab", laid_math_bits_deBruijn64tab), ("internal/strconv.uint64pow10", laid_internal_strconv_uint64pow10)] }
def NodeTimesSaid : Prop := nodeTimesRow.holds Tryz.pinned (OpenSpec.ofChange nodeTimesSpec)

/-- ITS FALSE NEIGHBOUR: 'it returns false'. Refute it at one input. -/
def nodeTimesWrong : ChangeSpec := { name := "nodeTimes", fn := fun _ => fun
  | [d] => { results := [.lit (.bool false)], args := [d] }
  | _ => none }
def NodeTimesWrongFalsely : Prop := nodeTimesRow.holds Tryz.pinned (OpenSpec.ofChange nodeTimesWrong)

/-- 'chroniclelaw23.NodeVotes': WHATEVER THE INPUT: true; the input reads as it did. -/
def nodeVotesSpec : ChangeSpec := { name := "nodeVotes", fn := fun _ => fun
  | [d1, d2] => { results := [.lit (.bool true)], args := [d1, d2] }
  | _ => none }
def nodeVotesRow : OpenClaim := { program := "ytmbohkdfdolkkaagreatdoor", sum := "c725801add7a89b42d1c16b5ee4f80be49b1086b9d7387c05e05e048c2a08d79", func := "chronicle/chroniclelaw23.NodeVotes", spec := "nodeVotes", inPlace := ["internal/abi.NoEscape", "internal/bytealg.MakeNoZero", "math.Float64frombits", "math.Float64bits"], unfollowed := true, recurses := true, named := ["internal/strconv.uint64pow10", "math/bits.deBruijn32tab", "math/bits.deBruijn64tab"], plainKeys := false, apart := false, laid := [("math/bits.deBruijn32tab", laid_math_bits_deBruijn32tab), ("math/bits.deBruijn64tab", laid_math_bits_deBruijn64tab), ("internal/strconv.uint64pow10", laid_internal_strconv_uint64pow10)] }
def NodeVotesSaid : Prop := nodeVotesRow.holds Tryz.pinned (OpenSpec.ofChange nodeVotesSpec)

/-- ITS FALSE NEIGHBOUR: 'it returns false'. Refute it at one input. -/
def nodeVotesWrong : ChangeSpec := { name := "nodeVotes", fn := fun _ => fun
  | [d1, d2] => { results := [.lit (.bool false)], args := [d1, d2] }
  | _ => none }
def NodeVotesWrongFalsely : Prop := nodeVotesRow.holds Tryz.pinned (OpenSpec.ofChange nodeVotesWrong)

/-- 'chroniclelaw23.NodeStands': WHATEVER THE INPUT: true; the input reads as it did. -/
def nodeStandsSpec : ChangeSpec := { name := "nodeStands", fn := fun _ => fun
  | [d1, d2, d3, d4] => { results := [.lit (.bool true)], args := [d1, d2, d3, d4] }
  | _ => none }
def nodeStandsRow : OpenClaim := { program := "ytmbohkdfdolkkaagreatdoor", sum := "c725801add7a89b42d1c16b5ee4f80be49b1086b9d7387c05e05e048c2a08d79", func := "chronicle/chroniclelaw23.NodeStands", spec := "nodeStands", inPlace := ["internal/abi.NoEscape", "internal/bytealg.MakeNoZero", "math.Float64frombits", "math.Float64bits"], unfollowed := true, recurses := true, named := ["internal/strconv.uint64pow10", "math/bits.deBruijn32tab", "math/bits.deBruijn64tab"], plainKeys := false, apart := false, laid := [("math/bits.deBruijn32tab", laid_math_bits_deBruijn32tab), ("math/bits.deBruijn64tab", laid_math_bits_deBruijn64tab), ("internal/strconv.uint64pow10", laid_internal_strconv_uint64pow10)] }
def NodeStandsSaid : Prop := nodeStandsRow.holds Tryz.pinned (OpenSpec.ofChange nodeStandsSpec)

/-- ITS FALSE NEIGHBOUR: 'it returns false'. Refute it at one input. -/
def nodeStandsWrong : ChangeSpec := { name := "nodeStands", fn := fun _ => fun
  | [d1, d2, d3, d4] => { results := [.lit (.bool false)], args := [d1, d2, d3, d4] }
  | _ => none }
def NodeStandsWrongFalsely : Prop := nodeStandsRow.holds Tryz.pinned (OpenSpec.ofChange nodeStandsWrong)

/-- 'chroniclelaw18.EngineNone': WHATEVER THE INPUT: true; the input reads as it did. -/
def engineNoneSpec : ChangeSpec := { name := "engineNone", fn := fun _ => fun
  | [d1, d2] => { results := [.lit (.bool true)], args := [d1, d2] }
  | _ => none }
def engineNoneRow : OpenClaim := { program := "ytmbohkdfdolkkaagreatdoor", sum := "c725801add7a89b42d1c16b5ee4f80be49b1086b9d7387c05e05e048c2a08d79", func := "chronicle/chroniclelaw18.EngineNone", spec := "engineNone", inPlace := ["internal/abi.NoEscape", "internal/bytealg.MakeNoZero", "math.Float64frombits", "math.Float64bits", "slices.overlaps[chronicle/memtab.Entry]", "internal/bytealg.IndexByteString", "internal/bytealg.IndexString"], unfollowed := true, recurses := true, named := ["internal/strconv.uint64pow10", "math/bits.deBruijn32tab", "math/bits.deBruijn64tab", "internal/bytealg.MaxLen"], plainKeys := false, apart := false, laid := [("math/bits.deBruijn32tab", laid_math_bits_deBruijn32tab), ("math/bits.deBruijn64tab", laid_math_bits_deBruijn64tab), ("internal/strconv.uint64pow10", laid_internal_strconv_uint64pow10)] }
def EngineNoneSaid : Prop := engineNoneRow.holds Tryz.pinned (OpenSpec.ofChange engineNoneSpec)

/-- ITS FALSE NEIGHBOUR: 'it returns false'. Refute it at one input. -/
def engineNoneWrong : ChangeSpec := { name := "engineNone", fn := fun _ => fun
  | [d1, d2] => { results := [.lit (.bool false)], args := [d1, d2] }
  | _ => none }
def EngineNoneWrongFalsely : Prop := engineNoneRow.holds Tryz.pinned (OpenSpec.ofChange engineNoneWrong)

/-- 'chroniclelaw24.ClusterRefuses': WHATEVER THE INPUT: true; the input reads as it did. -/
def clusterRefusesSpec : ChangeSpec := { name := "clusterRefuses", fn := fun _ => fun
  | [d1, d2, d3] => { results := [.lit (.bool true)], args := [d1, d2, d3] }
  | _ => none }
def clusterRefusesRow : OpenClaim := { program := "ytmbohkdfdolkkaagreatdoor", sum := "c725801add7a89b42d1c16b5ee4f80be49b1086b9d7387c05e05e048c2a08d79", func := "chronicle/chroniclelaw24.ClusterRefuses", spec := "clusterRefuses", inPlace := ["internal/abi.NoEscape", "internal/bytealg.MakeNoZero", "math.Float64frombits", "math.Float64bits"], unfollowed := true, recurses := true, named := ["internal/strconv.uint64pow10", "math/bits.deBruijn32tab", "math/bits.deBruijn64tab"], plainKeys := false, apart := false, laid := [("math/bits.deBruijn32tab", laid_math_bits_deBruijn32tab), ("math/bits.deBruijn64tab", laid_math_bits_deBruijn64tab), ("internal/strconv.uint64pow10", laid_internal_strconv_uint64pow10)] }
def ClusterRefusesSaid : Prop := clusterRefusesRow.holds Tryz.pinned (OpenSpec.ofChange clusterRefusesSpec)

/-- ITS FALSE NEIGHBOUR: 'it returns false'. Refute it at one input. -/
def clusterRefusesWrong : ChangeSpec := { name := "clusterRefuses", fn := fun _ => fun
  | [d1, d2, d3] => { results := [.lit (.bool false)], args := [d1, d2, d3] }
  | _ => none }
def ClusterRefusesWrongFalsely : Prop := clusterRefusesRow.holds Tryz.pinned (OpenSpec.ofChange clusterRefusesWrong)

/-- 'chroniclelaw24.ClusterSteps': WHATEVER THE INPUT: true; the input reads as it did. -/
def clusterStepsSpec : ChangeSpec := { name := "clusterSteps", fn := fun _ => fun
  | [d1, d2] => { results := [.lit (.bool true)], args := [d1, d2] }
  | _ => none }
def clusterStepsRow : OpenClaim := { program := "ytmbohkdfdolkkaagreatdoor", sum := "c725801add7a89b42d1c16b5ee4f80be49b1086b9d7387c05e05e048c2a08d79", func := "chronicle/chroniclelaw24.ClusterSteps", spec := "clusterSteps", inPlace := ["internal/abi.NoEscape", "internal/bytealg.MakeNoZero", "math.Float64frombits", "math.Float64bits"], unfollowed := true, recurses := true, named := ["internal/strconv.uint64pow10", "math/bits.deBruijn32tab", "math/bits.deBruijn64tab"], plainKeys := false, apart := false, laid := [("math/bits.deBruijn32tab", laid_math_bits_deBruijn32tab), ("math/bits.deBruijn64tab", laid_math_bits_deBruijn64tab), ("internal/strconv.uint64pow10", laid_internal_strconv_uint64pow10)] }
def ClusterStepsSaid : Prop := clusterStepsRow.holds Tryz.pinned (OpenSpec.ofChange clusterStepsSpec)

/-- ITS FALSE NEIGHBOUR: 'it returns false'. Refute it at one input. -/
def clusterStepsWrong : ChangeSpec := { name := "clusterSteps", fn := fun _ => fun
  | [d1, d2] => { results := [.lit (.bool false)], args := [d1, d2] }
  | _ => none }
def ClusterStepsWrongFalsely : Prop := clusterStepsRow.holds Tryz.pinned (OpenSpec.ofChange clusterStepsWrong)

/-- 'chroniclelaw24.ClusterNew': WHATEVER THE INPUT: true; the input reads as it did. -/
def clusterNewSpec : ChangeSpec := { name := "clusterNew", fn := fun _ => fun
  | [d1, d2] => { results := [.lit (.bool true)], args := [d1, d2] }
  | _ => none }
def clusterNewRow : OpenClaim := { program := "ytmbohkdfdolkkaagreatdoor", sum := "c725801add7a89b42d1c16b5ee4f80be49b1086b9d7387c05e05e048c2a08d79", func := "chronicle/chroniclelaw24.ClusterNew", spec := "clusterNew", inPlace := ["internal/abi.NoEscape", "internal/bytealg.MakeNoZero", "math.Float64frombits", "math.Float64bits"], unfollowed := true, recurses := true, named := ["internal/strconv.uint64pow10", "math/bits.deBruijn32tab", "math/bits.deBruijn64tab"], plainKeys := false, apart := false, laid := [("math/bits.deBruijn32tab", laid_math_bits_deBruijn32tab), ("math/bits.deBruijn64tab", laid_math_bits_deBruijn64tab), ("internal/strconv.uint64pow10", laid_internal_strconv_uint64pow10)] }
def ClusterNewSaid : Prop := clusterNewRow.holds Tryz.pinned (OpenSpec.ofChange clusterNewSpec)

/-- ITS FALSE NEIGHBOUR: 'it returns false'. Refute it at one input. -/
def clusterNewWrong : ChangeSpec := { name := "clusterNew", fn := fun _ => fun
  | [d1, d2] => { results := [.lit (.bool false)], args := [d1, d2] }
  | _ => none }
def ClusterNewWrongFalsely : Prop := clusterNewRow.holds Tryz.pinned (OpenSpec.ofChange clusterNewWrong)

/-- 'chroniclelaw24.ClusterFalls': WHATEVER THE INPUT: true; the input reads as it did. -/
def clusterFallsSpec : ChangeSpec := { name := "clusterFalls", fn := fun _ => fun
  | [d1, d2, d3, d4] => { results := [.lit (.bool true)], args := [d1, d2, d3, d4] }
  | _ => none }
def clusterFallsRow : OpenClaim := { program := "ytmbohkdfdolkkaagreatdoor", sum := "c725801add7a89b42d1c16b5ee4f80be49b1086b9d7387c05e05e048c2a08d79", func := "chronicle/chroniclelaw24.ClusterFalls", spec := "clusterFalls", inPlace := ["internal/abi.NoEscape", "internal/bytealg.MakeNoZero", "math.Float64frombits", "math.Float64bits", "maps.clone"], unfollowed := true, recurses := true, named := ["internal/strconv.uint64pow10", "math/bits.deBruijn32tab", "math/bits.deBruijn64tab"], plainKeys := false, apart := false, laid := [("math/bits.deBruijn32tab", laid_math_bits_deBruijn32tab), ("math/bits.deBruijn64tab", laid_math_bits_deBruijn64tab), ("internal/strconv.uint64pow10", laid_internal_strconv_uint64pow10)] }
def ClusterFallsSaid : Prop := clusterFallsRow.holds Tryz.pinned (OpenSpec.ofChange clusterFallsSpec)

/-- ITS FALSE NEIGHBOUR: 'it returns false'. Refute it at one input. -/
def clusterFallsWrong : ChangeSpec := { name := "clusterFalls", fn := fun _ => fun
  | [d1, d2, d3, d4] => { results := [.lit (.bool false)], args := [d1, d2, d3, d4] }
  | _ => none }
def ClusterFallsWrongFalsely : Prop := clusterFallsRow.holds Tryz.pinned (OpenSpec.ofChange clusterFallsWrong)

/- THE SECOND FORM. 'bulk': how many values and letters a reading holds, each counted each time it is reached (what is shared counts as often as it is met; a slice's spare places count too). A statement '..UptoSaid' is the law's where the arguments, and the package variables that the reading takes, are together of bulk at most 1048576: NARROWER than '..Said'. Prove '..Said' where nothing that the law and all that it calls make is longer than what came in: it says more and counts as full. Else prove '..UptoSaid'. A law counts once. -/
mutual
def uptoBulk {H : Type} : DataW H → Nat
  | .lit (.string bytes) => bytes.length + 1
  | .lit _ => 1
  | .nil => 1
  | .ptr d => uptoBulk d + 1
  | .slice elems spare => uptoBulkAll elems + uptoBulkAll spare + 1
  | .agg parts => uptoBulkAll parts + 1
  | .iface _ d => uptoBulk d + 1
  | .map entries => uptoBulkEntries entries + 1
  | .held _ => 1
def uptoBulkAll {H : Type} : List (DataW H) → Nat
  | [] => 0
  | d :: r => uptoBulk d + uptoBulkAll r
def uptoBulkEntries {H : Type} : List (Lit × DataW H) → Nat
  | [] => 0
  | x :: r => uptoBulkEntry x + uptoBulkEntries r
def uptoBulkEntry {H : Type} : Lit × DataW H → Nat
  | (.string bytes, d) => bytes.length + uptoBulk d + 1
  | (_, d) => uptoBulk d + 1
 end
def uptoSmall : (H : Type) → List (DataW H) → Bool := fun _ ds => decide (uptoBulkAll ds ≤ 1048576)
def OpenSpec.upto (s : _root_.Go.ChangeSpec) : _root_.Go.OpenSpec := { _root_.Go.OpenSpec.ofChange s with cond := some uptoSmall }

/-- 'chroniclelaw23.NodeTimes', WHERE WHAT IT READS IS OF BULK AT MOST 1048576: true; the input reads as it did. -/
def nodeTimesUptoRow : OpenClaim := { program := "ytmbohkdfdolkkaagreatdoor", sum := "c725801add7a89b42d1c16b5ee4f80be49b1086b9d7387c05e05e048c2a08d79", func := "chronicle/chroniclelaw23.NodeTimes", spec := "nodeTimes", inPlace := ["internal/abi.NoEscape", "internal/bytealg.MakeNoZero", "math.Float64frombits", "math.Float64bits", "maps.clone"], unfollowed := true, recurses := true, named := ["internal/strconv.uint64pow10", "math/bits.deBruijn32tab", "math/bits.deBruijn64tab"], plainKeys := false, apart := false, laid := [("math/bits.deBruijn32tab", laid_math_bits_deBruijn32tab), ("math/bits.deBruijn64tab", laid_math_bits_deBruijn64tab), ("internal/strconv.uint64pow10", laid_internal_strconv_uint64pow10)], narrowed := true }
def NodeTimesUptoSaid : Prop := nodeTimesUptoRow.holds Tryz.pinned (OpenSpec.upto nodeTimesSpec)

/-- 'chroniclelaw23.NodeVotes', WHERE WHAT IT READS IS OF BULK AT MOST 1048576: true; the input reads as it did. -/
def nodeVotesUptoRow : OpenClaim := { program := "ytmbohkdfdolkkaagreatdoor", sum := "c725801add7a89b42d1c16b5ee4f80be49b1086b9d7387c05e05e048c2a08d79", func := "chronicle/chroniclelaw23.NodeVotes", spec := "nodeVotes", inPlace := ["internal/abi.NoEscape", "internal/bytealg.MakeNoZero", "math.Float64frombits", "math.Float64bits"], unfollowed := true, recurses := true, named := ["internal/strconv.uint64pow10", "math/bits.deBruijn32tab", "math/bits.deBruijn64tab"], plainKeys := false, apart := false, laid := [("math/bits.deBruijn32tab", laid_math_bits_deBruijn32tab), ("math/bits.deBruijn64tab", laid_math_bits_deBruijn64tab), ("internal/strconv.uint64pow10", laid_internal_strconv_uint64pow10)], narrowed := true }
def NodeVotesUptoSaid : Prop := nodeVotesUptoRow.holds Tryz.pinned (OpenSpec.upto nodeVotesSpec)

/-- 'chroniclelaw23.NodeStands', WHERE WHAT IT READS IS OF BULK AT MOST 1048576: true; the input reads as it did. -/
def nodeStandsUptoRow : OpenClaim := { program := "ytmbohkdfdolkkaagreatdoor", sum := "c725801add7a89b42d1c16b5ee4f80be49b1086b9d7387c05e05e048c2a08d79", func := "chronicle/chroniclelaw23.NodeStands", spec := "nodeStands", inPlace := ["internal/abi.NoEscape", "internal/bytealg.MakeNoZero", "math.Float64frombits", "math.Float64bits"], unfollowed := true, recurses := true, named := ["internal/strconv.uint64pow10", "math/bits.deBruijn32tab", "math/bits.deBruijn64tab"], plainKeys := false, apart := false, laid := [("math/bits.deBruijn32tab", laid_math_bits_deBruijn32tab), ("math/bits.deBruijn64tab", laid_math_bits_deBruijn64tab), ("internal/strconv.uint64pow10", laid_internal_strconv_uint64pow10)], narrowed := true }
def NodeStandsUptoSaid : Prop := nodeStandsUptoRow.holds Tryz.pinned (OpenSpec.upto nodeStandsSpec)

/-- 'chroniclelaw18.EngineNone', WHERE WHAT IT READS IS OF BULK AT MOST 1048576: true; the input reads as it did. -/
def engineNoneUptoRow : OpenClaim := { program := "ytmbohkdfdolkkaagreatdoor", sum := "c725801add7a89b42d1c16b5ee4f80be49b1086b9d7387c05e05e048c2a08d79", func := "chronicle/chroniclelaw18.EngineNone", spec := "engineNone", inPlace := ["internal/abi.NoEscape", "internal/bytealg.MakeNoZero", "math.Float64frombits", "math.Float64bits", "slices.overlaps[chronicle/memtab.Entry]", "internal/bytealg.IndexByteString", "internal/bytealg.IndexString"], unfollowed := true, recurses := true, named := ["internal/strconv.uint64pow10", "math/bits.deBruijn32tab", "math/bits.deBruijn64tab", "internal/bytealg.MaxLen"], plainKeys := false, apart := false, laid := [("math/bits.deBruijn32tab", laid_math_bits_deBruijn32tab), ("math/bits.deBruijn64tab", laid_math_bits_deBruijn64tab), ("internal/strconv.uint64pow10", laid_internal_strconv_uint64pow10)], narrowed := true }
def EngineNoneUptoSaid : Prop := engineNoneUptoRow.holds Tryz.pinned (OpenSpec.upto engineNoneSpec)

/-- 'chroniclelaw24.ClusterRefuses', WHERE WHAT IT READS IS OF BULK AT MOST 1048576: true; the input reads as it did. -/
def clusterRefusesUptoRow : OpenClaim := { program := "ytmbohkdfdolkkaagreatdoor", sum := "c725801add7a89b42d1c16b5ee4f80be49b1086b9d7387c05e05e048c2a08d79", func := "chronicle/chroniclelaw24.ClusterRefuses", spec := "clusterRefuses", inPlace := ["internal/abi.NoEscape", "internal/bytealg.MakeNoZero", "math.Float64frombits", "math.Float64bits"], unfollowed := true, recurses := true, named := ["internal/strconv.uint64pow10", "math/bits.deBruijn32tab", "math/bits.deBruijn64tab"], plainKeys := false, apart := false, laid := [("math/bits.deBruijn32tab", laid_math_bits_deBruijn32tab), ("math/bits.deBruijn64tab", laid_math_bits_deBruijn64tab), ("internal/strconv.uint64pow10", laid_internal_strconv_uint64pow10)], narrowed := true }
def ClusterRefusesUptoSaid : Prop := clusterRefusesUptoRow.holds Tryz.pinned (OpenSpec.upto clusterRefusesSpec)

/-- 'chroniclelaw24.ClusterSteps', WHERE WHAT IT READS IS OF BULK AT MOST 1048576: true; the input reads as it did. -/
def clusterStepsUptoRow : OpenClaim := { program := "ytmbohkdfdolkkaagreatdoor", sum := "c725801add7a89b42d1c16b5ee4f80be49b1086b9d7387c05e05e048c2a08d79", func := "chronicle/chroniclelaw24.ClusterSteps", spec := "clusterSteps", inPlace := ["internal/abi.NoEscape", "internal/bytealg.MakeNoZero", "math.Float64frombits", "math.Float64bits"], unfollowed := true, recurses := true, named := ["internal/strconv.uint64pow10", "math/bits.deBruijn32tab", "math/bits.deBruijn64tab"], plainKeys := false, apart := false, laid := [("math/bits.deBruijn32tab", laid_math_bits_deBruijn32tab), ("math/bits.deBruijn64tab", laid_math_bits_deBruijn64tab), ("internal/strconv.uint64pow10", laid_internal_strconv_uint64pow10)], narrowed := true }
def ClusterStepsUptoSaid : Prop := clusterStepsUptoRow.holds Tryz.pinned (OpenSpec.upto clusterStepsSpec)

/-- 'chroniclelaw24.ClusterNew', WHERE WHAT IT READS IS OF BULK AT MOST 1048576: true; the input reads as it did. -/
def clusterNewUptoRow : OpenClaim := { program := "ytmbohkdfdolkkaagreatdoor", sum := "c725801add7a89b42d1c16b5ee4f80be49b1086b9d7387c05e05e048c2a08d79", func := "chronicle/chroniclelaw24.ClusterNew", spec := "clusterNew", inPlace := ["internal/abi.NoEscape", "internal/bytealg.MakeNoZero", "math.Float64frombits", "math.Float64bits"], unfollowed := true, recurses := true, named := ["internal/strconv.uint64pow10", "math/bits.deBruijn32tab", "math/bits.deBruijn64tab"], plainKeys := false, apart := false, laid := [("math/bits.deBruijn32tab", laid_math_bits_deBruijn32tab), ("math/bits.deBruijn64tab", laid_math_bits_deBruijn64tab), ("internal/strconv.uint64pow10", laid_internal_strconv_uint64pow10)], narrowed := true }
def ClusterNewUptoSaid : Prop := clusterNewUptoRow.holds Tryz.pinned (OpenSpec.upto clusterNewSpec)

/-- 'chroniclelaw24.ClusterFalls', WHERE WHAT IT READS IS OF BULK AT MOST 1048576: true; the input reads as it did. -/
def clusterFallsUptoRow : OpenClaim := { program := "ytmbohkdfdolkkaagreatdoor", sum := "c725801add7a89b42d1c16b5ee4f80be49b1086b9d7387c05e05e048c2a08d79", func := "chronicle/chroniclelaw24.ClusterFalls", spec := "clusterFalls", inPlace := ["internal/abi.NoEscape", "internal/bytealg.MakeNoZero", "math.Float64frombits", "math.Float64bits", "maps.clone"], unfollowed := true, recurses := true, named := ["internal/strconv.uint64pow10", "math/bits.deBruijn32tab", "math/bits.deBruijn64tab"], plainKeys := false, apart := false, laid := [("math/bits.deBruijn32tab", laid_math_bits_deBruijn32tab), ("math/bits.deBruijn64tab", laid_math_bits_deBruijn64tab), ("internal/strconv.uint64pow10", laid_internal_strconv_uint64pow10)], narrowed := true }
def ClusterFallsUptoSaid : Prop := clusterFallsUptoRow.holds Tryz.pinned (OpenSpec.upto clusterFallsSpec)

end Rows
end Go.Proofs.YtmbohkdfdolkkaaGreatDoor
