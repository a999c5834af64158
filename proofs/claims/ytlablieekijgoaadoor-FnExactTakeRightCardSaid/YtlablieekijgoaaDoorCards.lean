/-
  DERIVED. GIVEN WITH THE SEED: THE CARDS: each row of YtlablieekijgoaaDoorRows.lean that lists a variable, with what it lists TIED to the program's text (the seventh form; the later family's looks); each row that meets fmt, with fmt's text TOLD by the authors' own Lean function (tested against real Go, not proved from fmt's source: count such statements apart). THE CARD IS WHAT COUNTS. Prove the row's statement (the work); the ties are given (YtlablieekijgoaaDoorTie.lean); close each card by the builder's one call (the guide's Derived/Test/ToyasCard.lean, 'card_holds'). Laid BY PROGRAM, IN A SANDBOX (cutbox-door.mjs). By AI agents, Wed Nov 11 2026. No macro, syntax, notation, axiom, sorry.
-/
import Derived.Test.YtlablieekijgoaaDoorRows
import GoSem.ClaimSeven
namespace Go.Proofs.YtlablieekijgoaaDoor
namespace Rows

/-- THE TIED CARD OF 'laws.FnExactIsClerk'. -/
def fnExactIsClerkCard : Claim7 := { stood := { row := fnExactIsClerkRow, standIns := [], harness := (true, "04e424274a6176f5ff7cf664657ec84d63b84d72a2635f69533c46ddb1629661"), looks := false }, kinds := [], alts := [], laidByText := true, laidKinds := [.data, .pinned], laidTests := true, laidLooks := .later }
def FnExactIsClerkCardSaid : Prop := Claim7.holds Tryd.pinned (.plain (OpenSpec.ofChange fnExactIsClerkSpec)) fnExactIsClerkCard

/-- THE TIED CARD OF 'laws.FnExactAreClerks'. -/
def fnExactAreClerksCard : Claim7 := { stood := { row := fnExactAreClerksRow, standIns := [], harness := (true, "04e424274a6176f5ff7cf664657ec84d63b84d72a2635f69533c46ddb1629661"), looks := false }, kinds := [], alts := [], laidByText := true, laidKinds := [.data, .pinned], laidTests := true, laidLooks := .later }
def FnExactAreClerksCardSaid : Prop := Claim7.holds Tryd.pinned (.plain (OpenSpec.ofChange fnExactAreClerksSpec)) fnExactAreClerksCard

/-- THE TIED CARD OF 'laws.FnExactRightsOn'. -/
def fnExactRightsOnCard : Claim7 := { stood := { row := fnExactRightsOnRow, standIns := [], harness := (true, "04e424274a6176f5ff7cf664657ec84d63b84d72a2635f69533c46ddb1629661"), looks := false }, kinds := [], alts := [], laidByText := true, laidKinds := [.data, .pinned], laidTests := true, laidLooks := .later }
def FnExactRightsOnCardSaid : Prop := Claim7.holds Tryd.pinned (.plain (OpenSpec.ofChange fnExactRightsOnSpec)) fnExactRightsOnCard

/-- THE TIED CARD OF 'laws.FnExactMayDo'. -/
def fnExactMayDoCard : Claim7 := { stood := { row := fnExactMayDoRow, standIns := [], harness := (true, "04e424274a6176f5ff7cf664657ec84d63b84d72a2635f69533c46ddb1629661"), looks := false }, kinds := [], alts := [], laidByText := true, laidKinds := [.data, .pinned], laidTests := true, laidLooks := .later }
def FnExactMayDoCardSaid : Prop := Claim7.holds Tryd.pinned (.plain (OpenSpec.ofChange fnExactMayDoSpec)) fnExactMayDoCard

/-- THE TIED CARD OF 'laws.FnExactPairFor'. -/
def fnExactPairForCard : Claim7 := { stood := { row := fnExactPairForRow, standIns := [], harness := (true, "04e424274a6176f5ff7cf664657ec84d63b84d72a2635f69533c46ddb1629661"), looks := false }, kinds := [], alts := [], laidByText := true, laidKinds := [.data, .pinned], laidTests := true, laidLooks := .later }
def FnExactPairForCardSaid : Prop := Claim7.holds Tryd.pinned (.plain (OpenSpec.ofChange fnExactPairForSpec)) fnExactPairForCard

/-- THE TIED CARD OF 'laws.FnExactStandFor'. -/
def fnExactStandForCard : Claim7 := { stood := { row := fnExactStandForRow, standIns := [], harness := (true, "04e424274a6176f5ff7cf664657ec84d63b84d72a2635f69533c46ddb1629661"), looks := false }, kinds := [], alts := [], laidByText := true, laidKinds := [.data, .pinned], laidTests := true, laidLooks := .later }
def FnExactStandForCardSaid : Prop := Claim7.holds Tryd.pinned (.plain (OpenSpec.ofChange fnExactStandForSpec)) fnExactStandForCard

/-- THE TIED CARD OF 'laws.FnExactGiveRight'. -/
def fnExactGiveRightCard : Claim7 := { stood := { row := fnExactGiveRightRow, standIns := [], harness := (true, "04e424274a6176f5ff7cf664657ec84d63b84d72a2635f69533c46ddb1629661"), looks := false }, kinds := [], alts := [], laidByText := true, laidKinds := [.data, .pinned], laidTests := true, laidLooks := .later }
def FnExactGiveRightCardSaid : Prop := Claim7.holds Tryd.pinned (.plain (OpenSpec.ofChange fnExactGiveRightSpec)) fnExactGiveRightCard

/-- THE TIED CARD OF 'laws.FnExactTakeRight'. -/
def fnExactTakeRightCard : Claim7 := { stood := { row := fnExactTakeRightRow, standIns := [], harness := (true, "04e424274a6176f5ff7cf664657ec84d63b84d72a2635f69533c46ddb1629661"), looks := false }, kinds := [], alts := [], laidByText := true, laidKinds := [.data, .pinned], laidTests := true, laidLooks := .later }
def FnExactTakeRightCardSaid : Prop := Claim7.holds Tryd.pinned (.plain (OpenSpec.ofChange fnExactTakeRightSpec)) fnExactTakeRightCard

/-- THE TIED CARD OF 'laws.FnExactWhoMay'. -/
def fnExactWhoMayCard : Claim7 := { stood := { row := fnExactWhoMayRow, standIns := [], harness := (true, "04e424274a6176f5ff7cf664657ec84d63b84d72a2635f69533c46ddb1629661"), looks := false }, kinds := [], alts := [], laidByText := true, laidKinds := [.data, .pinned], laidTests := true, laidLooks := .later }
def FnExactWhoMayCardSaid : Prop := Claim7.holds Tryd.pinned (.plain (OpenSpec.ofChange fnExactWhoMaySpec)) fnExactWhoMayCard

/-- THE TIED CARD OF 'laws.FnExactDaysWithout'. -/
def fnExactDaysWithoutCard : Claim7 := { stood := { row := fnExactDaysWithoutRow, standIns := [], harness := (true, "04e424274a6176f5ff7cf664657ec84d63b84d72a2635f69533c46ddb1629661"), looks := false }, kinds := [], alts := [], laidByText := true, laidKinds := [.data, .pinned], laidTests := true, laidLooks := .later }
def FnExactDaysWithoutCardSaid : Prop := Claim7.holds Tryd.pinned (.plain (OpenSpec.ofChange fnExactDaysWithoutSpec)) fnExactDaysWithoutCard

/-- THE SECOND FORM's CARD OF 'laws.FnExactIsClerk'. -/
def fnExactIsClerkUptoCard : Claim7 := { stood := { row := fnExactIsClerkUptoRow, standIns := [], harness := (true, "04e424274a6176f5ff7cf664657ec84d63b84d72a2635f69533c46ddb1629661"), looks := false }, kinds := [], alts := [], laidByText := true, laidKinds := [.data, .pinned], laidTests := true, laidLooks := .later }
def FnExactIsClerkUptoCardSaid : Prop := Claim7.holds Tryd.pinned (.plain (OpenSpec.upto fnExactIsClerkSpec)) fnExactIsClerkUptoCard

/-- THE SECOND FORM's CARD OF 'laws.FnExactAreClerks'. -/
def fnExactAreClerksUptoCard : Claim7 := { stood := { row := fnExactAreClerksUptoRow, standIns := [], harness := (true, "04e424274a6176f5ff7cf664657ec84d63b84d72a2635f69533c46ddb1629661"), looks := false }, kinds := [], alts := [], laidByText := true, laidKinds := [.data, .pinned], laidTests := true, laidLooks := .later }
def FnExactAreClerksUptoCardSaid : Prop := Claim7.holds Tryd.pinned (.plain (OpenSpec.upto fnExactAreClerksSpec)) fnExactAreClerksUptoCard

/-- THE SECOND FORM's CARD OF 'laws.FnExactRightsOn'. -/
def fnExactRightsOnUptoCard : Claim7 := { stood := { row := fnExactRightsOnUptoRow, standIns := [], harness := (true, "04e424274a6176f5ff7cf664657ec84d63b84d72a2635f69533c46ddb1629661"), looks := false }, kinds := [], alts := [], laidByText := true, laidKinds := [.data, .pinned], laidTests := true, laidLooks := .later }
def FnExactRightsOnUptoCardSaid : Prop := Claim7.holds Tryd.pinned (.plain (OpenSpec.upto fnExactRightsOnSpec)) fnExactRightsOnUptoCard

/-- THE SECOND FORM's CARD OF 'laws.FnExactMayDo'. -/
def fnExactMayDoUptoCard : Claim7 := { stood := { row := fnExactMayDoUptoRow, standIns := [], harness := (true, "04e424274a6176f5ff7cf664657ec84d63b84d72a2635f69533c46ddb1629661"), looks := false }, kinds := [], alts := [], laidByText := true, laidKinds := [.data, .pinned], laidTests := true, laidLooks := .later }
def FnExactMayDoUptoCardSaid : Prop := Claim7.holds Tryd.pinned (.plain (OpenSpec.upto fnExactMayDoSpec)) fnExactMayDoUptoCard

/-- THE SECOND FORM's CARD OF 'laws.FnExactPairFor'. -/
def fnExactPairForUptoCard : Claim7 := { stood := { row := fnExactPairForUptoRow, standIns := [], harness := (true, "04e424274a6176f5ff7cf664657ec84d63b84d72a2635f69533c46ddb1629661"), looks := false }, kinds := [], alts := [], laidByText := true, laidKinds := [.data, .pinned], laidTests := true, laidLooks := .later }
def FnExactPairForUptoCardSaid : Prop := Claim7.holds Tryd.pinned (.plain (OpenSpec.upto fnExactPairForSpec)) fnExactPairForUptoCard

/-- THE SECOND FORM's CARD OF 'laws.FnExactStandFor'. -/
def fnExactStandForUptoCard : Claim7 := { stood := { row := fnExactStandForUptoRow, standIns := [], harness := (true, "04e424274a6176f5ff7cf664657ec84d63b84d72a2635f69533c46ddb1629661"), looks := false }, kinds := [], alts := [], laidByText := true, laidKinds := [.data, .pinned], laidTests := true, laidLooks := .later }
def FnExactStandForUptoCardSaid : Prop := Claim7.holds Tryd.pinned (.plain (OpenSpec.upto fnExactStandForSpec)) fnExactStandForUptoCard

/-- THE SECOND FORM's CARD OF 'laws.FnExactGiveRight'. -/
def fnExactGiveRightUptoCard : Claim7 := { stood := { row := fnExactGiveRightUptoRow, standIns := [], harness := (true, "04e424274a6176f5ff7cf664657ec84d63b84d72a2635f69533c46ddb1629661"), looks := false }, kinds := [], alts := [], laidByText := true, laidKinds := [.data, .pinned], laidTests := true, laidLooks := .later }
def FnExactGiveRightUptoCardSaid : Prop := Claim7.holds Tryd.pinned (.plain (OpenSpec.upto fnExactGiveRightSpec)) fnExactGiveRightUptoCard

/-- THE SECOND FORM's CARD OF 'laws.FnExactTakeRight'. -/
def fnExactTakeRightUptoCard : Claim7 := { stood := { row := fnExactTakeRightUptoRow, standIns := [], harness := (true, "04e424274a6176f5ff7cf664657ec84d63b84d72a2635f69533c46ddb1629661"), looks := false }, kinds := [], alts := [], laidByText := true, laidKinds := [.data, .pinned], laidTests := true, laidLooks := .later }
def FnExactTakeRightUptoCardSaid : Prop := Claim7.holds Tryd.pinned (.plain (OpenSpec.upto fnExactTakeRightSpec)) fnExactTakeRightUptoCard

/-- THE SECOND FORM's CARD OF 'laws.FnExactWhoMay'. -/
def fnExactWhoMayUptoCard : Claim7 := { stood := { row := fnExactWhoMayUptoRow, standIns := [], harness := (true, "04e424274a6176f5ff7cf664657ec84d63b84d72a2635f69533c46ddb1629661"), looks := false }, kinds := [], alts := [], laidByText := true, laidKinds := [.data, .pinned], laidTests := true, laidLooks := .later }
def FnExactWhoMayUptoCardSaid : Prop := Claim7.holds Tryd.pinned (.plain (OpenSpec.upto fnExactWhoMaySpec)) fnExactWhoMayUptoCard

/-- THE SECOND FORM's CARD OF 'laws.FnExactDaysWithout'. -/
def fnExactDaysWithoutUptoCard : Claim7 := { stood := { row := fnExactDaysWithoutUptoRow, standIns := [], harness := (true, "04e424274a6176f5ff7cf664657ec84d63b84d72a2635f69533c46ddb1629661"), looks := false }, kinds := [], alts := [], laidByText := true, laidKinds := [.data, .pinned], laidTests := true, laidLooks := .later }
def FnExactDaysWithoutUptoCardSaid : Prop := Claim7.holds Tryd.pinned (.plain (OpenSpec.upto fnExactDaysWithoutSpec)) fnExactDaysWithoutUptoCard
end Rows
end Go.Proofs.YtlablieekijgoaaDoor
