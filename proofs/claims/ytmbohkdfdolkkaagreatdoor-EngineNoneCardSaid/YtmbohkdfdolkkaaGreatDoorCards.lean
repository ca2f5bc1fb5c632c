/-
  DERIVED. GIVEN WITH THE SEED: THE CARDS: each row of YtmbohkdfdolkkaaGreatDoorRows.lean that lists a variable, with what it lists TIED to the program's text (the seventh form; the later family's looks); each row that meets fmt, with fmt's text TOLD by the authors' own Lean function (tested against real Go, not proved from fmt's source: count such statements apart). THE CARD IS WHAT COUNTS. Prove the row's statement (the work); the ties are given (YtmbohkdfdolkkaaGreatDoorTie.lean); close each card by the builder's one call (the guide's Derived/Test/ToyasCard.lean, 'card_holds'). Laid BY PROGRAM, IN A SANDBOX (cutbox-door.mjs). By AI agents, Wed Nov 11 2026. No macro, syntax, notation, axiom, sorry.
-/
import Derived.Test.YtmbohkdfdolkkaaGreatDoorRows
import GoSem.ClaimSeven
namespace Go.Proofs.YtmbohkdfdolkkaaGreatDoor
namespace Rows

/-- THE TIED CARD OF 'chroniclelaw23.NodeTimes'. -/
def nodeTimesCard : Claim7 := { stood := { row := nodeTimesRow, standIns := [], harness := (true, "3c5f3e770f36b152741ecbe7bccc1f93a9a51b0fc85a513accf2160a72c98999"), looks := true }, kinds := [], alts := [], laidByText := true, laidKinds := [.data, .data, .data], laidTests := true, laidLooks := .later }
def NodeTimesCardSaid : Prop := Claim7.holds Tryz.pinned (.plain (OpenSpec.ofChange nodeTimesSpec)) nodeTimesCard

/-- THE TIED CARD OF 'chroniclelaw23.NodeVotes'. -/
def nodeVotesCard : Claim7 := { stood := { row := nodeVotesRow, standIns := [], harness := (true, "3c5f3e770f36b152741ecbe7bccc1f93a9a51b0fc85a513accf2160a72c98999"), looks := true }, kinds := [], alts := [], laidByText := true, laidKinds := [.data, .data, .data], laidTests := true, laidLooks := .later }
def NodeVotesCardSaid : Prop := Claim7.holds Tryz.pinned (.plain (OpenSpec.ofChange nodeVotesSpec)) nodeVotesCard

/-- THE TIED CARD OF 'chroniclelaw23.NodeStands'. -/
def nodeStandsCard : Claim7 := { stood := { row := nodeStandsRow, standIns := [], harness := (true, "3c5f3e770f36b152741ecbe7bccc1f93a9a51b0fc85a513accf2160a72c98999"), looks := true }, kinds := [], alts := [], laidByText := true, laidKinds := [.data, .data, .data], laidTests := true, laidLooks := .later }
def NodeStandsCardSaid : Prop := Claim7.holds Tryz.pinned (.plain (OpenSpec.ofChange nodeStandsSpec)) nodeStandsCard

/-- THE TIED CARD OF 'chroniclelaw18.EngineNone'. -/
def engineNoneCard : Claim7 := { stood := { row := engineNoneRow, standIns := [], harness := (true, "3c5f3e770f36b152741ecbe7bccc1f93a9a51b0fc85a513accf2160a72c98999"), looks := true }, kinds := [], alts := [], laidByText := true, laidKinds := [.data, .data, .data], laidTests := true, laidLooks := .later }
def EngineNoneCardSaid : Prop := Claim7.holds Tryz.pinned (.plain (OpenSpec.ofChange engineNoneSpec)) engineNoneCard

/-- THE TIED CARD OF 'chroniclelaw24.ClusterRefuses'. -/
def clusterRefusesCard : Claim7 := { stood := { row := clusterRefusesRow, standIns := [], harness := (true, "3c5f3e770f36b152741ecbe7bccc1f93a9a51b0fc85a513accf2160a72c98999"), looks := true }, kinds := [], alts := [], laidByText := true, laidKinds := [.data, .data, .data], laidTests := true, laidLooks := .later }
def ClusterRefusesCardSaid : Prop := Claim7.holds Tryz.pinned (.plain (OpenSpec.ofChange clusterRefusesSpec)) clusterRefusesCard

/-- THE TIED CARD OF 'chroniclelaw24.ClusterSteps'. -/
def clusterStepsCard : Claim7 := { stood := { row := clusterStepsRow, standIns := [], harness := (true, "3c5f3e770f36b152741ecbe7bccc1f93a9a51b0fc85a513accf2160a72c98999"), looks := true }, kinds := [], alts := [], laidByText := true, laidKinds := [.data, .data, .data], laidTests := true, laidLooks := .later }
def ClusterStepsCardSaid : Prop := Claim7.holds Tryz.pinned (.plain (OpenSpec.ofChange clusterStepsSpec)) clusterStepsCard

/-- THE TIED CARD OF 'chroniclelaw24.ClusterNew'. -/
def clusterNewCard : Claim7 := { stood := { row := clusterNewRow, standIns := [], harness := (true, "3c5f3e770f36b152741ecbe7bccc1f93a9a51b0fc85a513accf2160a72c98999"), looks := true }, kinds := [], alts := [], laidByText := true, laidKinds := [.data, .data, .data], laidTests := true, laidLooks := .later }
def ClusterNewCardSaid : Prop := Claim7.holds Tryz.pinned (.plain (OpenSpec.ofChange clusterNewSpec)) clusterNewCard

/-- THE TIED CARD OF 'chroniclelaw24.ClusterFalls'. -/
def clusterFallsCard : Claim7 := { stood := { row := clusterFallsRow, standIns := [], harness := (true, "3c5f3e770f36b152741ecbe7bccc1f93a9a51b0fc85a513accf2160a72c98999"), looks := true }, kinds := [], alts := [], laidByText := true, laidKinds := [.data, .data, .data], laidTests := true, laidLooks := .later }
def ClusterFallsCardSaid : Prop := Claim7.holds Tryz.pinned (.plain (OpenSpec.ofChange clusterFallsSpec)) clusterFallsCard

/-- THE SECOND FORM's CARD OF 'chroniclelaw23.NodeTimes'. -/
def nodeTimesUptoCard : Claim7 := { stood := { row := nodeTimesUptoRow, standIns := [], harness := (true, "3c5f3e770f36b152741ecbe7bccc1f93a9a51b0fc85a513accf2160a72c98999"), looks := true }, kinds := [], alts := [], laidByText := true, laidKinds := [.data, .data, .data], laidTests := true, laidLooks := .later }
def NodeTimesUptoCardSaid : Prop := Claim7.holds Tryz.pinned (.plain (OpenSpec.upto nodeTimesSpec)) nodeTimesUptoCard

/-- THE SECOND FORM's CARD OF 'chroniclelaw23.NodeVotes'. -/
def nodeVotesUptoCard : Claim7 := { stood := { row := nodeVotesUptoRow, standIns := [], harness := (true, "3c5f3e770f36b152741ecbe7bccc1f93a9a51b0fc85a513accf2160a72c98999"), looks := true }, kinds := [], alts := [], laidByText := true, laidKinds := [.data, .data, .data], laidTests := true, laidLooks := .later }
def NodeVotesUptoCardSaid : Prop := Claim7.holds Tryz.pinned (.plain (OpenSpec.upto nodeVotesSpec)) nodeVotesUptoCard

/-- THE SECOND FORM's CARD OF 'chroniclelaw23.NodeStands'. -/
def nodeStandsUptoCard : Claim7 := { stood := { row := nodeStandsUptoRow, standIns := [], harness := (true, "3c5f3e770f36b152741ecbe7bccc1f93a9a51b0fc85a513accf2160a72c98999"), looks := true }, kinds := [], alts := [], laidByText := true, laidKinds := [.data, .data, .data], laidTests := true, laidLooks := .later }
def NodeStandsUptoCardSaid : Prop := Claim7.holds Tryz.pinned (.plain (OpenSpec.upto nodeStandsSpec)) nodeStandsUptoCard

/-- THE SECOND FORM's CARD OF 'chroniclelaw18.EngineNone'. -/
def engineNoneUptoCard : Claim7 := { stood := { row := engineNoneUptoRow, standIns := [], harness := (true, "3c5f3e770f36b152741ecbe7bccc1f93a9a51b0fc85a513accf2160a72c98999"), looks := true }, kinds := [], alts := [], laidByText := true, laidKinds := [.data, .data, .data], laidTests := true, laidLooks := .later }
def EngineNoneUptoCardSaid : Prop := Claim7.holds Tryz.pinned (.plain (OpenSpec.upto engineNoneSpec)) engineNoneUptoCard

/-- THE SECOND FORM's CARD OF 'chroniclelaw24.ClusterRefuses'. -/
def clusterRefusesUptoCard : Claim7 := { stood := { row := clusterRefusesUptoRow, standIns := [], harness := (true, "3c5f3e770f36b152741ecbe7bccc1f93a9a51b0fc85a513accf2160a72c98999"), looks := true }, kinds := [], alts := [], laidByText := true, laidKinds := [.data, .data, .data], laidTests := true, laidLooks := .later }
def ClusterRefusesUptoCardSaid : Prop := Claim7.holds Tryz.pinned (.plain (OpenSpec.upto clusterRefusesSpec)) clusterRefusesUptoCard

/-- THE SECOND FORM's CARD OF 'chroniclelaw24.ClusterSteps'. -/
def clusterStepsUptoCard : Claim7 := { stood := { row := clusterStepsUptoRow, standIns := [], harness := (true, "3c5f3e770f36b152741ecbe7bccc1f93a9a51b0fc85a513accf2160a72c98999"), looks := true }, kinds := [], alts := [], laidByText := true, laidKinds := [.data, .data, .data], laidTests := true, laidLooks := .later }
def ClusterStepsUptoCardSaid : Prop := Claim7.holds Tryz.pinned (.plain (OpenSpec.upto clusterStepsSpec)) clusterStepsUptoCard

/-- THE SECOND FORM's CARD OF 'chroniclelaw24.ClusterNew'. -/
def clusterNewUptoCard : Claim7 := { stood := { row := clusterNewUptoRow, standIns := [], harness := (true, "3c5f3e770f36b152741ecbe7bccc1f93a9a51b0fc85a513accf2160a72c98999"), looks := true }, kinds := [], alts := [], laidByText := true, laidKinds := [.data, .data, .data], laidTests := true, laidLooks := .later }
def ClusterNewUptoCardSaid : Prop := Claim7.holds Tryz.pinned (.plain (OpenSpec.upto clusterNewSpec)) clusterNewUptoCard

/-- THE SECOND FORM's CARD OF 'chroniclelaw24.ClusterFalls'. -/
def clusterFallsUptoCard : Claim7 := { stood := { row := clusterFallsUptoRow, standIns := [], harness := (true, "3c5f3e770f36b152741ecbe7bccc1f93a9a51b0fc85a513accf2160a72c98999"), looks := true }, kinds := [], alts := [], laidByText := true, laidKinds := [.data, .data, .data], laidTests := true, laidLooks := .later }
def ClusterFallsUptoCardSaid : Prop := Claim7.holds Tryz.pinned (.plain (OpenSpec.upto clusterFallsSpec)) clusterFallsUptoCard
end Rows
end Go.Proofs.YtmbohkdfdolkkaaGreatDoor
