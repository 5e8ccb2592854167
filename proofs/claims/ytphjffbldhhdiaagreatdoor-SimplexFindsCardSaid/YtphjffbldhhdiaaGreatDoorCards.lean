/-
  DERIVED. GIVEN WITH THE SEED: THE CARDS: each row of YtphjffbldhhdiaaGreatDoorRows.lean that lists a variable, with what it lists TIED to the program's text (the seventh form; the later family's looks); each row that meets fmt, with fmt's text TOLD by the authors' own Lean function (tested against real Go, not proved from fmt's source: count such statements apart). THE CARD IS WHAT COUNTS. Prove the row's statement (the work); the ties are given (YtphjffbldhhdiaaGreatDoorTie.lean); close each card by the builder's one call (the guide's Derived/Test/ToyasCard.lean, 'card_holds'). Laid BY PROGRAM, IN A SANDBOX (cutbox-door.mjs). By AI agents, Wed Nov 11 2026. No macro, syntax, notation, axiom, sorry.
-/
import Derived.Test.YtphjffbldhhdiaaGreatDoorRows
import GoSem.ClaimSeven
namespace Go.Proofs.YtphjffbldhhdiaaGreatDoor
namespace Rows

/-- THE TIED CARD OF 'collatorlaw17.SimplexSolves'. -/
def simplexSolvesCard : Claim7 := { stood := { row := simplexSolvesRow, standIns := [], harness := (true, "b0fe92ba7c2a2a72e9f321b47bbdfa637a4cb906b80d9804e400b58a2aaf72f7"), looks := false }, kinds := [], alts := [], laidByText := true, laidKinds := [.data, .data, .data], laidTests := true, laidLooks := .later }
def SimplexSolvesCardSaid : Prop := Claim7.holds Tryz.pinned (.plain (OpenSpec.ofChange simplexSolvesSpec)) simplexSolvesCard

/-- THE TIED CARD OF 'collatorlaw17.SimplexFinds'. -/
def simplexFindsCard : Claim7 := { stood := { row := simplexFindsRow, standIns := [], harness := (true, "b0fe92ba7c2a2a72e9f321b47bbdfa637a4cb906b80d9804e400b58a2aaf72f7"), looks := false }, kinds := [], alts := [], laidByText := true, laidKinds := [.data, .data, .data], laidTests := true, laidLooks := .later }
def SimplexFindsCardSaid : Prop := Claim7.holds Tryz.pinned (.plain (OpenSpec.ofChange simplexFindsSpec)) simplexFindsCard

/-- THE TIED CARD OF 'collatorlaw17.SimplexScaled'. -/
def simplexScaledCard : Claim7 := { stood := { row := simplexScaledRow, standIns := [], harness := (true, "b0fe92ba7c2a2a72e9f321b47bbdfa637a4cb906b80d9804e400b58a2aaf72f7"), looks := false }, kinds := [], alts := [], laidByText := true, laidKinds := [.data, .data, .data], laidTests := true, laidLooks := .later }
def SimplexScaledCardSaid : Prop := Claim7.holds Tryz.pinned (.plain (OpenSpec.ofChange simplexScaledSpec)) simplexScaledCard

/-- THE SECOND FORM's CARD OF 'collatorlaw17.SimplexSolves'. -/
def simplexSolvesUptoCard : Claim7 := { stood := { row := simplexSolvesUptoRow, standIns := [], harness := (true, "b0fe92ba7c2a2a72e9f321b47bbdfa637a4cb906b80d9804e400b58a2aaf72f7"), looks := false }, kinds := [], alts := [], laidByText := true, laidKinds := [.data, .data, .data], laidTests := true, laidLooks := .later }
def SimplexSolvesUptoCardSaid : Prop := Claim7.holds Tryz.pinned (.plain (OpenSpec.upto simplexSolvesSpec)) simplexSolvesUptoCard

/-- THE SECOND FORM's CARD OF 'collatorlaw17.SimplexFinds'. -/
def simplexFindsUptoCard : Claim7 := { stood := { row := simplexFindsUptoRow, standIns := [], harness := (true, "b0fe92ba7c2a2a72e9f321b47bbdfa637a4cb906b80d9804e400b58a2aaf72f7"), looks := false }, kinds := [], alts := [], laidByText := true, laidKinds := [.data, .data, .data], laidTests := true, laidLooks := .later }
def SimplexFindsUptoCardSaid : Prop := Claim7.holds Tryz.pinned (.plain (OpenSpec.upto simplexFindsSpec)) simplexFindsUptoCard

/-- THE SECOND FORM's CARD OF 'collatorlaw17.SimplexScaled'. -/
def simplexScaledUptoCard : Claim7 := { stood := { row := simplexScaledUptoRow, standIns := [], harness := (true, "b0fe92ba7c2a2a72e9f321b47bbdfa637a4cb906b80d9804e400b58a2aaf72f7"), looks := false }, kinds := [], alts := [], laidByText := true, laidKinds := [.data, .data, .data], laidTests := true, laidLooks := .later }
def SimplexScaledUptoCardSaid : Prop := Claim7.holds Tryz.pinned (.plain (OpenSpec.upto simplexScaledSpec)) simplexScaledUptoCard
end Rows
end Go.Proofs.YtphjffbldhhdiaaGreatDoor
