/-
  DERIVED. GIVEN WITH THE SEED: THE CARDS: each row of YthpibilefdmemaaDoorRows.lean that lists a variable, with what it lists TIED to the program's text (the seventh form; the later family's looks); each row that meets fmt, with fmt's text TOLD by the authors' own Lean function (tested against real Go, not proved from fmt's source: count such statements apart). THE CARD IS WHAT COUNTS. Prove the row's statement (the work); the ties are given (YthpibilefdmemaaDoorTie.lean); close each card by the builder's one call (the guide's Derived/Test/ToyasCard.lean, 'card_holds'). Laid BY PROGRAM, IN A SANDBOX (cutbox-door.mjs). By AI agents, Wed Nov 11 2026. No macro, syntax, notation, axiom, sorry.
-/
import Derived.Test.YthpibilefdmemaaDoorRows
import GoSem.ClaimSeven
namespace Go.Proofs.YthpibilefdmemaaDoor
namespace Rows

/-- THE TIED CARD OF 'collatorlaw01.WholeReads'. -/
def wholeReadsCard : Claim7 := { stood := { row := wholeReadsRow, standIns := [], harness := (true, "c6640c33d9fccdc695ccb9b3ed64ffd1e4fd625be522b72c327048406eb2c597"), looks := false }, kinds := [], alts := [], laidByText := true, laidKinds := [.data, .data, .data], laidTests := true, laidLooks := .later }
def WholeReadsCardSaid : Prop := Claim7.holds Tryd.pinned (.plain (OpenSpec.ofChange wholeReadsSpec)) wholeReadsCard

/-- THE TIED CARD OF 'collatorlaw01.WholeTold'. -/
def wholeToldCard : Claim7 := { stood := { row := wholeToldRow, standIns := [], harness := (true, "c6640c33d9fccdc695ccb9b3ed64ffd1e4fd625be522b72c327048406eb2c597"), looks := false }, kinds := [], alts := [], laidByText := true, laidKinds := [.data, .data, .data], laidTests := true, laidLooks := .later }
def WholeToldCardSaid : Prop := Claim7.holds Tryd.pinned (.plain (OpenSpec.ofChange wholeToldSpec)) wholeToldCard

/-- THE TIED CARD OF 'collatorlaw01.WholeOrder'. -/
def wholeOrderCard : Claim7 := { stood := { row := wholeOrderRow, standIns := [], harness := (true, "c6640c33d9fccdc695ccb9b3ed64ffd1e4fd625be522b72c327048406eb2c597"), looks := false }, kinds := [], alts := [], laidByText := true, laidKinds := [.data, .data, .data], laidTests := true, laidLooks := .later }
def WholeOrderCardSaid : Prop := Claim7.holds Tryd.pinned (.plain (OpenSpec.ofChange wholeOrderSpec)) wholeOrderCard

/-- THE TIED CARD OF 'collatorlaw01.WholeRules'. -/
def wholeRulesCard : Claim7 := { stood := { row := wholeRulesRow, standIns := [], harness := (true, "c6640c33d9fccdc695ccb9b3ed64ffd1e4fd625be522b72c327048406eb2c597"), looks := false }, kinds := [], alts := [], laidByText := true, laidKinds := [.data, .data, .data], laidTests := true, laidLooks := .later }
def WholeRulesCardSaid : Prop := Claim7.holds Tryd.pinned (.plain (OpenSpec.ofChange wholeRulesSpec)) wholeRulesCard

/-- THE TIED CARD OF 'collatorlaw02.FracMakes'. -/
def fracMakesCard : Claim7 := { stood := { row := fracMakesRow, standIns := [], harness := (true, "c6640c33d9fccdc695ccb9b3ed64ffd1e4fd625be522b72c327048406eb2c597"), looks := false }, kinds := [], alts := [], laidByText := true, laidKinds := [.data, .data, .data], laidTests := true, laidLooks := .later }
def FracMakesCardSaid : Prop := Claim7.holds Tryd.pinned (.plain (OpenSpec.ofChange fracMakesSpec)) fracMakesCard

/-- THE TIED CARD OF 'collatorlaw02.FracOrder'. -/
def fracOrderCard : Claim7 := { stood := { row := fracOrderRow, standIns := [], harness := (true, "c6640c33d9fccdc695ccb9b3ed64ffd1e4fd625be522b72c327048406eb2c597"), looks := false }, kinds := [], alts := [], laidByText := true, laidKinds := [.data, .data, .data], laidTests := true, laidLooks := .later }
def FracOrderCardSaid : Prop := Claim7.holds Tryd.pinned (.plain (OpenSpec.ofChange fracOrderSpec)) fracOrderCard

/-- THE TIED CARD OF 'collatorlaw02.FracTold'. -/
def fracToldCard : Claim7 := { stood := { row := fracToldRow, standIns := [], harness := (true, "c6640c33d9fccdc695ccb9b3ed64ffd1e4fd625be522b72c327048406eb2c597"), looks := false }, kinds := [], alts := [], laidByText := true, laidKinds := [.data, .data, .data], laidTests := true, laidLooks := .later }
def FracToldCardSaid : Prop := Claim7.holds Tryd.pinned (.plain (OpenSpec.ofChange fracToldSpec)) fracToldCard

/-- THE TIED CARD OF 'collatorlaw02.FracRules'. -/
def fracRulesCard : Claim7 := { stood := { row := fracRulesRow, standIns := [], harness := (true, "c6640c33d9fccdc695ccb9b3ed64ffd1e4fd625be522b72c327048406eb2c597"), looks := false }, kinds := [], alts := [], laidByText := true, laidKinds := [.data, .data, .data], laidTests := true, laidLooks := .later }
def FracRulesCardSaid : Prop := Claim7.holds Tryd.pinned (.plain (OpenSpec.ofChange fracRulesSpec)) fracRulesCard

/-- THE SECOND FORM's CARD OF 'collatorlaw01.WholeReads'. -/
def wholeReadsUptoCard : Claim7 := { stood := { row := wholeReadsUptoRow, standIns := [], harness := (true, "c6640c33d9fccdc695ccb9b3ed64ffd1e4fd625be522b72c327048406eb2c597"), looks := false }, kinds := [], alts := [], laidByText := true, laidKinds := [.data, .data, .data], laidTests := true, laidLooks := .later }
def WholeReadsUptoCardSaid : Prop := Claim7.holds Tryd.pinned (.plain (OpenSpec.upto wholeReadsSpec)) wholeReadsUptoCard

/-- THE SECOND FORM's CARD OF 'collatorlaw01.WholeTold'. -/
def wholeToldUptoCard : Claim7 := { stood := { row := wholeToldUptoRow, standIns := [], harness := (true, "c6640c33d9fccdc695ccb9b3ed64ffd1e4fd625be522b72c327048406eb2c597"), looks := false }, kinds := [], alts := [], laidByText := true, laidKinds := [.data, .data, .data], laidTests := true, laidLooks := .later }
def WholeToldUptoCardSaid : Prop := Claim7.holds Tryd.pinned (.plain (OpenSpec.upto wholeToldSpec)) wholeToldUptoCard

/-- THE SECOND FORM's CARD OF 'collatorlaw01.WholeOrder'. -/
def wholeOrderUptoCard : Claim7 := { stood := { row := wholeOrderUptoRow, standIns := [], harness := (true, "c6640c33d9fccdc695ccb9b3ed64ffd1e4fd625be522b72c327048406eb2c597"), looks := false }, kinds := [], alts := [], laidByText := true, laidKinds := [.data, .data, .data], laidTests := true, laidLooks := .later }
def WholeOrderUptoCardSaid : Prop := Claim7.holds Tryd.pinned (.plain (OpenSpec.upto wholeOrderSpec)) wholeOrderUptoCard

/-- THE SECOND FORM's CARD OF 'collatorlaw01.WholeRules'. -/
def wholeRulesUptoCard : Claim7 := { stood := { row := wholeRulesUptoRow, standIns := [], harness := (true, "c6640c33d9fccdc695ccb9b3ed64ffd1e4fd625be522b72c327048406eb2c597"), looks := false }, kinds := [], alts := [], laidByText := true, laidKinds := [.data, .data, .data], laidTests := true, laidLooks := .later }
def WholeRulesUptoCardSaid : Prop := Claim7.holds Tryd.pinned (.plain (OpenSpec.upto wholeRulesSpec)) wholeRulesUptoCard

/-- THE SECOND FORM's CARD OF 'collatorlaw02.FracMakes'. -/
def fracMakesUptoCard : Claim7 := { stood := { row := fracMakesUptoRow, standIns := [], harness := (true, "c6640c33d9fccdc695ccb9b3ed64ffd1e4fd625be522b72c327048406eb2c597"), looks := false }, kinds := [], alts := [], laidByText := true, laidKinds := [.data, .data, .data], laidTests := true, laidLooks := .later }
def FracMakesUptoCardSaid : Prop := Claim7.holds Tryd.pinned (.plain (OpenSpec.upto fracMakesSpec)) fracMakesUptoCard

/-- THE SECOND FORM's CARD OF 'collatorlaw02.FracOrder'. -/
def fracOrderUptoCard : Claim7 := { stood := { row := fracOrderUptoRow, standIns := [], harness := (true, "c6640c33d9fccdc695ccb9b3ed64ffd1e4fd625be522b72c327048406eb2c597"), looks := false }, kinds := [], alts := [], laidByText := true, laidKinds := [.data, .data, .data], laidTests := true, laidLooks := .later }
def FracOrderUptoCardSaid : Prop := Claim7.holds Tryd.pinned (.plain (OpenSpec.upto fracOrderSpec)) fracOrderUptoCard

/-- THE SECOND FORM's CARD OF 'collatorlaw02.FracTold'. -/
def fracToldUptoCard : Claim7 := { stood := { row := fracToldUptoRow, standIns := [], harness := (true, "c6640c33d9fccdc695ccb9b3ed64ffd1e4fd625be522b72c327048406eb2c597"), looks := false }, kinds := [], alts := [], laidByText := true, laidKinds := [.data, .data, .data], laidTests := true, laidLooks := .later }
def FracToldUptoCardSaid : Prop := Claim7.holds Tryd.pinned (.plain (OpenSpec.upto fracToldSpec)) fracToldUptoCard

/-- THE SECOND FORM's CARD OF 'collatorlaw02.FracRules'. -/
def fracRulesUptoCard : Claim7 := { stood := { row := fracRulesUptoRow, standIns := [], harness := (true, "c6640c33d9fccdc695ccb9b3ed64ffd1e4fd625be522b72c327048406eb2c597"), looks := false }, kinds := [], alts := [], laidByText := true, laidKinds := [.data, .data, .data], laidTests := true, laidLooks := .later }
def FracRulesUptoCardSaid : Prop := Claim7.holds Tryd.pinned (.plain (OpenSpec.upto fracRulesSpec)) fracRulesUptoCard
end Rows
end Go.Proofs.YthpibilefdmemaaDoor
