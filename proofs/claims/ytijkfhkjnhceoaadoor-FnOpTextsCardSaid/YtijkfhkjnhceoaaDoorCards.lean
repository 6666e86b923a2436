/-
  DERIVED. GIVEN WITH THE SEED: THE CARDS: each row of YtijkfhkjnhceoaaDoorRows.lean that lists a variable, with what it lists TIED to the program's text (the seventh form; the later family's looks); each row that meets fmt, with fmt's text TOLD by the authors' own Lean function (tested against real Go, not proved from fmt's source: count such statements apart). THE CARD IS WHAT COUNTS. Prove the row's statement (the work); the ties are given (YtijkfhkjnhceoaaDoorTie.lean); close each card by the builder's one call (the guide's Derived/Test/ToyasCard.lean, 'card_holds'). Laid BY PROGRAM, IN A SANDBOX (cutbox-door.mjs). By AI agents, Wed Nov 11 2026. No macro, syntax, notation, axiom, sorry.
-/
import Derived.Test.YtijkfhkjnhceoaaDoorRows
import GoSem.ClaimSeven
namespace Go.Proofs.YtijkfhkjnhceoaaDoor
namespace Rows

/-- THE TIED CARD OF 'laws.FnExactOpText'. -/
def fnExactOpTextCard : Claim7 := { stood := { row := fnExactOpTextRow, standIns := [], harness := (true, "99f51d3179db75039e4bccd0e18054e825f8a21784fb68949300fd46585253f4"), looks := true }, kinds := [], alts := [], laidByText := true, laidKinds := [.data, .data, .data], laidTests := true, laidLooks := .later }
def FnExactOpTextCardSaid : Prop := Claim7.holds Tryd.pinned (.plain (OpenSpec.ofChange fnExactOpTextSpec)) fnExactOpTextCard

/-- THE TIED CARD OF 'laws.FnExactOpsText'. -/
def fnExactOpsTextCard : Claim7 := { stood := { row := fnExactOpsTextRow, standIns := [], harness := (true, "99f51d3179db75039e4bccd0e18054e825f8a21784fb68949300fd46585253f4"), looks := true }, kinds := [], alts := [], laidByText := true, laidKinds := [.data, .data, .data], laidTests := true, laidLooks := .later }
def FnExactOpsTextCardSaid : Prop := Claim7.holds Tryd.pinned (.plain (OpenSpec.ofChange fnExactOpsTextSpec)) fnExactOpsTextCard

/-- THE TIED CARD OF 'laws.FnExactOpOf'. -/
def fnExactOpOfCard : Claim7 := { stood := { row := fnExactOpOfRow, standIns := [], harness := (true, "99f51d3179db75039e4bccd0e18054e825f8a21784fb68949300fd46585253f4"), looks := true }, kinds := [], alts := [], laidByText := true, laidKinds := [.data, .data, .data, .sentinel, .sentinel], laidTests := true, laidLooks := .later }
def FnExactOpOfCardSaid : Prop := Claim7.holds Tryd.pinned (.plain (OpenSpec.ofChange fnExactOpOfSpec)) fnExactOpOfCard

/-- THE TIED CARD OF 'laws.FnExactOpsOf'. -/
def fnExactOpsOfCard : Claim7 := { stood := { row := fnExactOpsOfRow, standIns := [], harness := (true, "99f51d3179db75039e4bccd0e18054e825f8a21784fb68949300fd46585253f4"), looks := true }, kinds := [], alts := [], laidByText := true, laidKinds := [.data, .data, .data, .sentinel, .sentinel], laidTests := true, laidLooks := .later }
def FnExactOpsOfCardSaid : Prop := Claim7.holds Tryd.pinned (.plain (OpenSpec.ofChange fnExactOpsOfSpec)) fnExactOpsOfCard

/-- THE TIED CARD OF 'laws.FnOpTexts'. -/
def fnOpTextsCard : Claim7 := { stood := { row := fnOpTextsRow, standIns := [], harness := (true, "99f51d3179db75039e4bccd0e18054e825f8a21784fb68949300fd46585253f4"), looks := true }, kinds := [], alts := [], laidByText := true, laidKinds := [.data, .data, .data, .sentinel, .sentinel], laidTests := true, laidLooks := .later }
def FnOpTextsCardSaid : Prop := Claim7.holds Tryd.pinned (.plain (OpenSpec.ofChange fnOpTextsSpec)) fnOpTextsCard

/-- THE SECOND FORM's CARD OF 'laws.FnExactOpText'. -/
def fnExactOpTextUptoCard : Claim7 := { stood := { row := fnExactOpTextUptoRow, standIns := [], harness := (true, "99f51d3179db75039e4bccd0e18054e825f8a21784fb68949300fd46585253f4"), looks := true }, kinds := [], alts := [], laidByText := true, laidKinds := [.data, .data, .data], laidTests := true, laidLooks := .later }
def FnExactOpTextUptoCardSaid : Prop := Claim7.holds Tryd.pinned (.plain (OpenSpec.upto fnExactOpTextSpec)) fnExactOpTextUptoCard

/-- THE SECOND FORM's CARD OF 'laws.FnExactOpsText'. -/
def fnExactOpsTextUptoCard : Claim7 := { stood := { row := fnExactOpsTextUptoRow, standIns := [], harness := (true, "99f51d3179db75039e4bccd0e18054e825f8a21784fb68949300fd46585253f4"), looks := true }, kinds := [], alts := [], laidByText := true, laidKinds := [.data, .data, .data], laidTests := true, laidLooks := .later }
def FnExactOpsTextUptoCardSaid : Prop := Claim7.holds Tryd.pinned (.plain (OpenSpec.upto fnExactOpsTextSpec)) fnExactOpsTextUptoCard

/-- THE SECOND FORM's CARD OF 'laws.FnExactOpOf'. -/
def fnExactOpOfUptoCard : Claim7 := { stood := { row := fnExactOpOfUptoRow, standIns := [], harness := (true, "99f51d3179db75039e4bccd0e18054e825f8a21784fb68949300fd46585253f4"), looks := true }, kinds := [], alts := [], laidByText := true, laidKinds := [.data, .data, .data, .sentinel, .sentinel], laidTests := true, laidLooks := .later }
def FnExactOpOfUptoCardSaid : Prop := Claim7.holds Tryd.pinned (.plain (OpenSpec.upto fnExactOpOfSpec)) fnExactOpOfUptoCard

/-- THE SECOND FORM's CARD OF 'laws.FnExactOpsOf'. -/
def fnExactOpsOfUptoCard : Claim7 := { stood := { row := fnExactOpsOfUptoRow, standIns := [], harness := (true, "99f51d3179db75039e4bccd0e18054e825f8a21784fb68949300fd46585253f4"), looks := true }, kinds := [], alts := [], laidByText := true, laidKinds := [.data, .data, .data, .sentinel, .sentinel], laidTests := true, laidLooks := .later }
def FnExactOpsOfUptoCardSaid : Prop := Claim7.holds Tryd.pinned (.plain (OpenSpec.upto fnExactOpsOfSpec)) fnExactOpsOfUptoCard

/-- THE SECOND FORM's CARD OF 'laws.FnOpTexts'. -/
def fnOpTextsUptoCard : Claim7 := { stood := { row := fnOpTextsUptoRow, standIns := [], harness := (true, "99f51d3179db75039e4bccd0e18054e825f8a21784fb68949300fd46585253f4"), looks := true }, kinds := [], alts := [], laidByText := true, laidKinds := [.data, .data, .data, .sentinel, .sentinel], laidTests := true, laidLooks := .later }
def FnOpTextsUptoCardSaid : Prop := Claim7.holds Tryd.pinned (.plain (OpenSpec.upto fnOpTextsSpec)) fnOpTextsUptoCard
end Rows
end Go.Proofs.YtijkfhkjnhceoaaDoor
