/-
  DERIVED. GIVEN WITH THE SEED: THE CARDS: each row of YtcmicmenkbgfmaaDoorRows.lean that lists a variable, with what it lists TIED to the program's text (the seventh form; the later family's looks); each row that meets fmt, with fmt's text TOLD by the authors' own Lean function (tested against real Go, not proved from fmt's source: count such statements apart). THE CARD IS WHAT COUNTS. Prove the row's statement (the work); the ties are given (YtcmicmenkbgfmaaDoorTie.lean); close each card by the builder's one call (the guide's Derived/Test/ToyasCard.lean, 'card_holds'). Laid BY PROGRAM, IN A SANDBOX (cutbox-door.mjs). By AI agents, Wed Nov 11 2026. No macro, syntax, notation, axiom, sorry.
-/
import Derived.Test.YtcmicmenkbgfmaaDoorRows
import GoSem.ClaimSeven
namespace Go.Proofs.YtcmicmenkbgfmaaDoor
namespace Rows

/-- THE TIED CARD OF 'laws.FnTermText'. -/
def fnTermTextCard : Claim7 := { stood := { row := fnTermTextRow, standIns := [], harness := (true, "07e0e93768c890e9aa782dab21d5ec1b990238d1640262381f2898340a8235a3"), looks := true }, kinds := [], alts := [], laidByText := true, laidKinds := [.data, .data, .data, .sentinel, .sentinel], laidTests := true, laidLooks := .later }
def FnTermTextCardSaid : Prop := Claim7.holds Tryd.pinned (.plain (OpenSpec.ofChange fnTermTextSpec)) fnTermTextCard

/-- THE TIED CARD OF 'laws.FnExactReadTerm'. -/
def fnExactReadTermCard : Claim7 := { stood := { row := fnExactReadTermRow, standIns := [], harness := (true, "07e0e93768c890e9aa782dab21d5ec1b990238d1640262381f2898340a8235a3"), looks := true }, kinds := [], alts := [], laidByText := true, laidKinds := [.data, .data, .data, .sentinel, .sentinel], laidTests := true, laidLooks := .later }
def FnExactReadTermCardSaid : Prop := Claim7.holds Tryd.pinned (.plain (OpenSpec.ofChange fnExactReadTermSpec)) fnExactReadTermCard

/-- THE TIED CARD OF 'laws.FnReadTerm'. -/
def fnReadTermCard : Claim7 := { stood := { row := fnReadTermRow, standIns := [], harness := (true, "07e0e93768c890e9aa782dab21d5ec1b990238d1640262381f2898340a8235a3"), looks := true }, kinds := [], alts := [], laidByText := true, laidKinds := [.data, .data, .data, .sentinel, .sentinel], laidTests := true, laidLooks := .later }
def FnReadTermCardSaid : Prop := Claim7.holds Tryd.pinned (.plain (OpenSpec.ofChange fnReadTermSpec)) fnReadTermCard

/-- THE TIED CARD OF 'laws.FnExactTermText'. -/
def fnExactTermTextCard : Claim7 := { stood := { row := fnExactTermTextRow, standIns := [], harness := (true, "07e0e93768c890e9aa782dab21d5ec1b990238d1640262381f2898340a8235a3"), looks := true }, kinds := [], alts := [], laidByText := true, laidKinds := [.data, .data, .data], laidTests := true, laidLooks := .later }
def FnExactTermTextCardSaid : Prop := Claim7.holds Tryd.pinned (.plain (OpenSpec.ofChange fnExactTermTextSpec)) fnExactTermTextCard

/-- THE SECOND FORM's CARD OF 'laws.FnTermText'. -/
def fnTermTextUptoCard : Claim7 := { stood := { row := fnTermTextUptoRow, standIns := [], harness := (true, "07e0e93768c890e9aa782dab21d5ec1b990238d1640262381f2898340a8235a3"), looks := true }, kinds := [], alts := [], laidByText := true, laidKinds := [.data, .data, .data, .sentinel, .sentinel], laidTests := true, laidLooks := .later }
def FnTermTextUptoCardSaid : Prop := Claim7.holds Tryd.pinned (.plain (OpenSpec.upto fnTermTextSpec)) fnTermTextUptoCard

/-- THE SECOND FORM's CARD OF 'laws.FnExactReadTerm'. -/
def fnExactReadTermUptoCard : Claim7 := { stood := { row := fnExactReadTermUptoRow, standIns := [], harness := (true, "07e0e93768c890e9aa782dab21d5ec1b990238d1640262381f2898340a8235a3"), looks := true }, kinds := [], alts := [], laidByText := true, laidKinds := [.data, .data, .data, .sentinel, .sentinel], laidTests := true, laidLooks := .later }
def FnExactReadTermUptoCardSaid : Prop := Claim7.holds Tryd.pinned (.plain (OpenSpec.upto fnExactReadTermSpec)) fnExactReadTermUptoCard

/-- THE SECOND FORM's CARD OF 'laws.FnReadTerm'. -/
def fnReadTermUptoCard : Claim7 := { stood := { row := fnReadTermUptoRow, standIns := [], harness := (true, "07e0e93768c890e9aa782dab21d5ec1b990238d1640262381f2898340a8235a3"), looks := true }, kinds := [], alts := [], laidByText := true, laidKinds := [.data, .data, .data, .sentinel, .sentinel], laidTests := true, laidLooks := .later }
def FnReadTermUptoCardSaid : Prop := Claim7.holds Tryd.pinned (.plain (OpenSpec.upto fnReadTermSpec)) fnReadTermUptoCard

/-- THE SECOND FORM's CARD OF 'laws.FnExactTermText'. -/
def fnExactTermTextUptoCard : Claim7 := { stood := { row := fnExactTermTextUptoRow, standIns := [], harness := (true, "07e0e93768c890e9aa782dab21d5ec1b990238d1640262381f2898340a8235a3"), looks := true }, kinds := [], alts := [], laidByText := true, laidKinds := [.data, .data, .data], laidTests := true, laidLooks := .later }
def FnExactTermTextUptoCardSaid : Prop := Claim7.holds Tryd.pinned (.plain (OpenSpec.upto fnExactTermTextSpec)) fnExactTermTextUptoCard
end Rows
end Go.Proofs.YtcmicmenkbgfmaaDoor
