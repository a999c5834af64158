/-
  DERIVED. GIVEN WITH THE SEED: THE CARDS: each row of YtefabcnifbnehaaDoorRows.lean that lists a variable, with what it lists TIED to the program's text (the seventh form; the later family's looks); each row that meets fmt, with fmt's text TOLD by the authors' own Lean function (tested against real Go, not proved from fmt's source: count such statements apart). THE CARD IS WHAT COUNTS. Prove the row's statement (the work); the ties are given (YtefabcnifbnehaaDoorTie.lean); close each card by the builder's one call (the guide's Derived/Test/ToyasCard.lean, 'card_holds'). Laid BY PROGRAM, IN A SANDBOX (cutbox-door.mjs). By AI agents, Wed Nov 11 2026. No macro, syntax, notation, axiom, sorry.
-/
import Derived.Test.YtefabcnifbnehaaDoorRows
import GoSem.ClaimSeven
namespace Go.Proofs.YtefabcnifbnehaaDoor
namespace Rows

/-- THE TIED CARD OF 'laws.FnExactLongestLived'. -/
def fnExactLongestLivedCard : Claim7 := { stood := { row := fnExactLongestLivedRow, standIns := [], harness := (true, "cd5284185961feb060e794e0848c40246376afee05761e4482fe5bd318deeef5"), looks := false }, kinds := [], alts := [], laidByText := true, laidKinds := [.data, .pinned], laidTests := true, laidLooks := .later }
def FnExactLongestLivedCardSaid : Prop := Claim7.holds Tryd.pinned (.plain (OpenSpec.ofChange fnExactLongestLivedSpec)) fnExactLongestLivedCard

/-- THE TIED CARD OF 'laws.FnExactWaysTo'. -/
def fnExactWaysToCard : Claim7 := { stood := { row := fnExactWaysToRow, standIns := [], harness := (true, "cd5284185961feb060e794e0848c40246376afee05761e4482fe5bd318deeef5"), looks := false }, kinds := [], alts := [], laidByText := true, laidKinds := [.data, .pinned], laidTests := true, laidLooks := .later }
def FnExactWaysToCardSaid : Prop := Claim7.holds Tryd.pinned (.plain (OpenSpec.ofChange fnExactWaysToSpec)) fnExactWaysToCard

/-- THE TIED CARD OF 'laws.FnExactAreFormats'. -/
def fnExactAreFormatsCard : Claim7 := { stood := { row := fnExactAreFormatsRow, standIns := [], harness := (true, "cd5284185961feb060e794e0848c40246376afee05761e4482fe5bd318deeef5"), looks := false }, kinds := [], alts := [], laidByText := true, laidKinds := [.data, .pinned], laidTests := true, laidLooks := .later }
def FnExactAreFormatsCardSaid : Prop := Claim7.holds Tryd.pinned (.plain (OpenSpec.ofChange fnExactAreFormatsSpec)) fnExactAreFormatsCard

/-- THE TIED CARD OF 'laws.FnExactLastReadable'. -/
def fnExactLastReadableCard : Claim7 := { stood := { row := fnExactLastReadableRow, standIns := [], harness := (true, "cd5284185961feb060e794e0848c40246376afee05761e4482fe5bd318deeef5"), looks := false }, kinds := [], alts := [], laidByText := true, laidKinds := [.data, .pinned], laidTests := true, laidLooks := .later }
def FnExactLastReadableCardSaid : Prop := Claim7.holds Tryd.pinned (.plain (OpenSpec.ofChange fnExactLastReadableSpec)) fnExactLastReadableCard

/-- THE TIED CARD OF 'laws.FnExactIsReadable'. -/
def fnExactIsReadableCard : Claim7 := { stood := { row := fnExactIsReadableRow, standIns := [], harness := (true, "cd5284185961feb060e794e0848c40246376afee05761e4482fe5bd318deeef5"), looks := false }, kinds := [], alts := [], laidByText := true, laidKinds := [.data, .pinned], laidTests := true, laidLooks := .later }
def FnExactIsReadableCardSaid : Prop := Claim7.holds Tryd.pinned (.plain (OpenSpec.ofChange fnExactIsReadableSpec)) fnExactIsReadableCard

/-- THE TIED CARD OF 'laws.FnExactAreCopies'. -/
def fnExactAreCopiesCard : Claim7 := { stood := { row := fnExactAreCopiesRow, standIns := [], harness := (true, "cd5284185961feb060e794e0848c40246376afee05761e4482fe5bd318deeef5"), looks := false }, kinds := [], alts := [], laidByText := true, laidKinds := [.data, .pinned], laidTests := true, laidLooks := .later }
def FnExactAreCopiesCardSaid : Prop := Claim7.holds Tryd.pinned (.plain (OpenSpec.ofChange fnExactAreCopiesSpec)) fnExactAreCopiesCard

/-- THE TIED CARD OF 'laws.FnExactShortestPath'. -/
def fnExactShortestPathCard : Claim7 := { stood := { row := fnExactShortestPathRow, standIns := [], harness := (true, "cd5284185961feb060e794e0848c40246376afee05761e4482fe5bd318deeef5"), looks := false }, kinds := [], alts := [], laidByText := true, laidKinds := [.data, .pinned], laidTests := true, laidLooks := .later }
def FnExactShortestPathCardSaid : Prop := Claim7.holds Tryd.pinned (.plain (OpenSpec.ofChange fnExactShortestPathSpec)) fnExactShortestPathCard

/-- THE TIED CARD OF 'laws.FnExactSizeByFormat'. -/
def fnExactSizeByFormatCard : Claim7 := { stood := { row := fnExactSizeByFormatRow, standIns := [], harness := (true, "cd5284185961feb060e794e0848c40246376afee05761e4482fe5bd318deeef5"), looks := false }, kinds := [], alts := [], laidByText := true, laidKinds := [.data, .pinned], laidTests := true, laidLooks := .later }
def FnExactSizeByFormatCardSaid : Prop := Claim7.holds Tryd.pinned (.plain (OpenSpec.ofChange fnExactSizeByFormatSpec)) fnExactSizeByFormatCard

/-- THE TIED CARD OF 'laws.FnExactUnseen'. -/
def fnExactUnseenCard : Claim7 := { stood := { row := fnExactUnseenRow, standIns := [], harness := (true, "cd5284185961feb060e794e0848c40246376afee05761e4482fe5bd318deeef5"), looks := false }, kinds := [], alts := [], laidByText := true, laidKinds := [.data, .pinned], laidTests := true, laidLooks := .later }
def FnExactUnseenCardSaid : Prop := Claim7.holds Tryd.pinned (.plain (OpenSpec.ofChange fnExactUnseenSpec)) fnExactUnseenCard

/-- THE TIED CARD OF 'laws.FnExactLostRecords'. -/
def fnExactLostRecordsCard : Claim7 := { stood := { row := fnExactLostRecordsRow, standIns := [], harness := (true, "cd5284185961feb060e794e0848c40246376afee05761e4482fe5bd318deeef5"), looks := false }, kinds := [], alts := [], laidByText := true, laidKinds := [.data, .pinned], laidTests := true, laidLooks := .later }
def FnExactLostRecordsCardSaid : Prop := Claim7.holds Tryd.pinned (.plain (OpenSpec.ofChange fnExactLostRecordsSpec)) fnExactLostRecordsCard

/-- THE SECOND FORM's CARD OF 'laws.FnExactLongestLived'. -/
def fnExactLongestLivedUptoCard : Claim7 := { stood := { row := fnExactLongestLivedUptoRow, standIns := [], harness := (true, "cd5284185961feb060e794e0848c40246376afee05761e4482fe5bd318deeef5"), looks := false }, kinds := [], alts := [], laidByText := true, laidKinds := [.data, .pinned], laidTests := true, laidLooks := .later }
def FnExactLongestLivedUptoCardSaid : Prop := Claim7.holds Tryd.pinned (.plain (OpenSpec.upto fnExactLongestLivedSpec)) fnExactLongestLivedUptoCard

/-- THE SECOND FORM's CARD OF 'laws.FnExactWaysTo'. -/
def fnExactWaysToUptoCard : Claim7 := { stood := { row := fnExactWaysToUptoRow, standIns := [], harness := (true, "cd5284185961feb060e794e0848c40246376afee05761e4482fe5bd318deeef5"), looks := false }, kinds := [], alts := [], laidByText := true, laidKinds := [.data, .pinned], laidTests := true, laidLooks := .later }
def FnExactWaysToUptoCardSaid : Prop := Claim7.holds Tryd.pinned (.plain (OpenSpec.upto fnExactWaysToSpec)) fnExactWaysToUptoCard

/-- THE SECOND FORM's CARD OF 'laws.FnExactAreFormats'. -/
def fnExactAreFormatsUptoCard : Claim7 := { stood := { row := fnExactAreFormatsUptoRow, standIns := [], harness := (true, "cd5284185961feb060e794e0848c40246376afee05761e4482fe5bd318deeef5"), looks := false }, kinds := [], alts := [], laidByText := true, laidKinds := [.data, .pinned], laidTests := true, laidLooks := .later }
def FnExactAreFormatsUptoCardSaid : Prop := Claim7.holds Tryd.pinned (.plain (OpenSpec.upto fnExactAreFormatsSpec)) fnExactAreFormatsUptoCard

/-- THE SECOND FORM's CARD OF 'laws.FnExactLastReadable'. -/
def fnExactLastReadableUptoCard : Claim7 := { stood := { row := fnExactLastReadableUptoRow, standIns := [], harness := (true, "cd5284185961feb060e794e0848c40246376afee05761e4482fe5bd318deeef5"), looks := false }, kinds := [], alts := [], laidByText := true, laidKinds := [.data, .pinned], laidTests := true, laidLooks := .later }
def FnExactLastReadableUptoCardSaid : Prop := Claim7.holds Tryd.pinned (.plain (OpenSpec.upto fnExactLastReadableSpec)) fnExactLastReadableUptoCard

/-- THE SECOND FORM's CARD OF 'laws.FnExactIsReadable'. -/
def fnExactIsReadableUptoCard : Claim7 := { stood := { row := fnExactIsReadableUptoRow, standIns := [], harness := (true, "cd5284185961feb060e794e0848c40246376afee05761e4482fe5bd318deeef5"), looks := false }, kinds := [], alts := [], laidByText := true, laidKinds := [.data, .pinned], laidTests := true, laidLooks := .later }
def FnExactIsReadableUptoCardSaid : Prop := Claim7.holds Tryd.pinned (.plain (OpenSpec.upto fnExactIsReadableSpec)) fnExactIsReadableUptoCard

/-- THE SECOND FORM's CARD OF 'laws.FnExactAreCopies'. -/
def fnExactAreCopiesUptoCard : Claim7 := { stood := { row := fnExactAreCopiesUptoRow, standIns := [], harness := (true, "cd5284185961feb060e794e0848c40246376afee05761e4482fe5bd318deeef5"), looks := false }, kinds := [], alts := [], laidByText := true, laidKinds := [.data, .pinned], laidTests := true, laidLooks := .later }
def FnExactAreCopiesUptoCardSaid : Prop := Claim7.holds Tryd.pinned (.plain (OpenSpec.upto fnExactAreCopiesSpec)) fnExactAreCopiesUptoCard

/-- THE SECOND FORM's CARD OF 'laws.FnExactShortestPath'. -/
def fnExactShortestPathUptoCard : Claim7 := { stood := { row := fnExactShortestPathUptoRow, standIns := [], harness := (true, "cd5284185961feb060e794e0848c40246376afee05761e4482fe5bd318deeef5"), looks := false }, kinds := [], alts := [], laidByText := true, laidKinds := [.data, .pinned], laidTests := true, laidLooks := .later }
def FnExactShortestPathUptoCardSaid : Prop := Claim7.holds Tryd.pinned (.plain (OpenSpec.upto fnExactShortestPathSpec)) fnExactShortestPathUptoCard

/-- THE SECOND FORM's CARD OF 'laws.FnExactSizeByFormat'. -/
def fnExactSizeByFormatUptoCard : Claim7 := { stood := { row := fnExactSizeByFormatUptoRow, standIns := [], harness := (true, "cd5284185961feb060e794e0848c40246376afee05761e4482fe5bd318deeef5"), looks := false }, kinds := [], alts := [], laidByText := true, laidKinds := [.data, .pinned], laidTests := true, laidLooks := .later }
def FnExactSizeByFormatUptoCardSaid : Prop := Claim7.holds Tryd.pinned (.plain (OpenSpec.upto fnExactSizeByFormatSpec)) fnExactSizeByFormatUptoCard

/-- THE SECOND FORM's CARD OF 'laws.FnExactUnseen'. -/
def fnExactUnseenUptoCard : Claim7 := { stood := { row := fnExactUnseenUptoRow, standIns := [], harness := (true, "cd5284185961feb060e794e0848c40246376afee05761e4482fe5bd318deeef5"), looks := false }, kinds := [], alts := [], laidByText := true, laidKinds := [.data, .pinned], laidTests := true, laidLooks := .later }
def FnExactUnseenUptoCardSaid : Prop := Claim7.holds Tryd.pinned (.plain (OpenSpec.upto fnExactUnseenSpec)) fnExactUnseenUptoCard

/-- THE SECOND FORM's CARD OF 'laws.FnExactLostRecords'. -/
def fnExactLostRecordsUptoCard : Claim7 := { stood := { row := fnExactLostRecordsUptoRow, standIns := [], harness := (true, "cd5284185961feb060e794e0848c40246376afee05761e4482fe5bd318deeef5"), looks := false }, kinds := [], alts := [], laidByText := true, laidKinds := [.data, .pinned], laidTests := true, laidLooks := .later }
def FnExactLostRecordsUptoCardSaid : Prop := Claim7.holds Tryd.pinned (.plain (OpenSpec.upto fnExactLostRecordsSpec)) fnExactLostRecordsUptoCard
end Rows
end Go.Proofs.YtefabcnifbnehaaDoor
