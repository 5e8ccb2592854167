/-
  No cell of these rows narrows 'for every input' (looked for: loops, veiled, ifaces, maps, wideKeys, modest, calm, conditions, laid).
  DERIVED. THE GIVEN ROWS OF THIS SEAT. 5 by the template 'for every input the law returns true; each argument reads behind the call as it read before'; 0 by the template 'total and deterministic' (their statements: YtphjffbldhhdiaaTotals.lean).
  GIVEN WITH THE SEED: the statements are not yours to turn. If you find one false, say at which input.
  Laid BY PROGRAM, IN A SANDBOX (cutbox-rows.mjs): the forced cells as the released guide's own fill.sh prints them over the translation 043d7f059e84ac37… (all of the seat's roots in one cut). By AI agents, Wed Nov 11 2026. No macro, syntax, notation, axiom, sorry.
-/
import Derived.Test.YtphjffbldhhdiaaChecked
import GoSem.Claim
import GoSem.ClaimJoined
import GoSem.ClaimMapViews
import Derived.JoinedTies
import Derived.KernelRfl
namespace Go.Proofs.Ytphjffbldhhdiaa
/- THE CELL 'sum', in the pinned program and in every row, IS THE sha256 OF THE DUMP (.gsa) THAT YtphjffbldhhdiaaProg.lean LOADS. Nothing in Lean hashes anything: it is a label: what it is worth is what the hold of that sum in a sandbox is worth. -/
noncomputable def Try.pinned : Pinned := { name := "ytphjffbldhhdiaa", sum := "043d7f059e84ac37f1337d21cfe7b18fc4279fc77cb6d767545905c2a07fb2ca", checked := Try.checked }
namespace Rows
def none {H : Type} : Left H := { results := [], args := [] }

/-- 'collatorlaw18.LiaSolves': WHATEVER THE INPUT: true; the input reads as it did. -/
def liaSolvesSpec : ChangeSpec := { name := "liaSolves", fn := fun _ => fun
  | [d1, d2, d3] => { results := [.lit (.bool true)], args := [d1, d2, d3] }
  | _ => none }
def liaSolvesRow : OpenClaim := { program := "ytphjffbldhhdiaa", sum := "043d7f059e84ac37f1337d21cfe7b18fc4279fc77cb6d767545905c2a07fb2ca", func := "collator/collatorlaw18.LiaSolves", spec := "liaSolves", unfollowed := true, recurses := true, apart := false }
def LiaSolvesSaid : Prop := liaSolvesRow.holds Try.pinned (OpenSpec.ofChange liaSolvesSpec)

/-- ITS FALSE NEIGHBOUR: 'it returns false'. Refute it at one input. -/
def liaSolvesWrong : ChangeSpec := { name := "liaSolves", fn := fun _ => fun
  | [d1, d2, d3] => { results := [.lit (.bool false)], args := [d1, d2, d3] }
  | _ => none }
def LiaSolvesWrongFalsely : Prop := liaSolvesRow.holds Try.pinned (OpenSpec.ofChange liaSolvesWrong)

/-- 'collatorlaw18.LiaFinds': WHATEVER THE INPUT: true; the input reads as it did. -/
def liaFindsSpec : ChangeSpec := { name := "liaFinds", fn := fun _ => fun
  | [d1, d2, d3, d4] => { results := [.lit (.bool true)], args := [d1, d2, d3, d4] }
  | _ => none }
def liaFindsRow : OpenClaim := { program := "ytphjffbldhhdiaa", sum := "043d7f059e84ac37f1337d21cfe7b18fc4279fc77cb6d767545905c2a07fb2ca", func := "collator/collatorlaw18.LiaFinds", spec := "liaFinds", unfollowed := true, recurses := true, apart := false }
def LiaFindsSaid : Prop := liaFindsRow.holds Try.pinned (OpenSpec.ofChange liaFindsSpec)

/-- ITS FALSE NEIGHBOUR: 'it returns false'. Refute it at one input. -/
def liaFindsWrong : ChangeSpec := { name := "liaFinds", fn := fun _ => fun
  | [d1, d2, d3, d4] => { results := [.lit (.bool false)], args := [d1, d2, d3, d4] }
  | _ => none }
def LiaFindsWrongFalsely : Prop := liaFindsRow.holds Try.pinned (OpenSpec.ofChange liaFindsWrong)

/-- 'collatorlaw18.LiaFuel': WHATEVER THE INPUT: true; the input reads as it did. -/
def liaFuelSpec : ChangeSpec := { name := "liaFuel", fn := fun _ => fun
  | [d1, d2, d3, d4] => { results := [.lit (.bool true)], args := [d1, d2, d3, d4] }
  | _ => none }
def liaFuelRow : OpenClaim := { program := "ytphjffbldhhdiaa", sum := "043d7f059e84ac37f1337d21cfe7b18fc4279fc77cb6d767545905c2a07fb2ca", func := "collator/collatorlaw18.LiaFuel", spec := "liaFuel", unfollowed := true, recurses := true, apart := false }
def LiaFuelSaid : Prop := liaFuelRow.holds Try.pinned (OpenSpec.ofChange liaFuelSpec)

/-- ITS FALSE NEIGHBOUR: 'it returns false'. Refute it at one input. -/
def liaFuelWrong : ChangeSpec := { name := "liaFuel", fn := fun _ => fun
  | [d1, d2, d3, d4] => { results := [.lit (.bool false)], args := [d1, d2, d3, d4] }
  | _ => none }
def LiaFuelWrongFalsely : Prop := liaFuelRow.holds Try.pinned (OpenSpec.ofChange liaFuelWrong)

/-- 'collatorlaw18.LiaShifted': WHATEVER THE INPUT: true; the input reads as it did. -/
def liaShiftedSpec : ChangeSpec := { name := "liaShifted", fn := fun _ => fun
  | [d1, d2, d3] => { results := [.lit (.bool true)], args := [d1, d2, d3] }
  | _ => none }
def liaShiftedRow : OpenClaim := { program := "ytphjffbldhhdiaa", sum := "043d7f059e84ac37f1337d21cfe7b18fc4279fc77cb6d767545905c2a07fb2ca", func := "collator/collatorlaw18.LiaShifted", spec := "liaShifted", unfollowed := true, recurses := true, apart := false }
def LiaShiftedSaid : Prop := liaShiftedRow.holds Try.pinned (OpenSpec.ofChange liaShiftedSpec)

/-- ITS FALSE NEIGHBOUR: 'it returns false'. Refute it at one input. -/
def liaShiftedWrong : ChangeSpec := { name := "liaShifted", fn := fun _ => fun
  | [d1, d2, d3] => { results := [.lit (.bool false)], args := [d1, d2, d3] }
  | _ => none }
def LiaShiftedWrongFalsely : Prop := liaShiftedRow.holds Try.pinned (OpenSpec.ofChange liaShiftedWrong)

/-- 'collatorlaw18.LiaBox': WHATEVER THE INPUT: true; the input reads as it did. -/
def liaBoxSpec : ChangeSpec := { name := "liaBox", fn := fun _ => fun
  | [d1, d2] => { results := [.lit (.bool true)], args := [d1, d2] }
  | _ => none }
def liaBoxRow : OpenClaim := { program := "ytphjffbldhhdiaa", sum := "043d7f059e84ac37f1337d21cfe7b18fc4279fc77cb6d767545905c2a07fb2ca", func := "collator/collatorlaw18.LiaBox", spec := "liaBox", unfollowed := true, recurses := true, apart := false }
def LiaBoxSaid : Prop := liaBoxRow.holds Try.pinned (OpenSpec.ofChange liaBoxSpec)

/-- ITS FALSE NEIGHBOUR: 'it returns false'. Refute it at one input. -/
def liaBoxWrong : ChangeSpec := { name := "liaBox", fn := fun _ => fun
  | [d1, d2] => { results := [.lit (.bool false)], args := [d1, d2] }
  | _ => none }
def LiaBoxWrongFalsely : Prop := liaBoxRow.holds Try.pinned (OpenSpec.ofChange liaBoxWrong)

/- THE SECOND FORM. 'bulk': how many values and letters a reading holds, each counted each time it is reached (what is shared counts as often as it is met; a slice's spare places count too). A statement '..UptoSaid' is the law's where the arguments, and the package variables that the reading takes, are together of bulk at most 1048576: NARROWER than '..Said'. Prove '..Said' where nothing that the law and all that it calls make is longer than what came in: it says more and counts as full. Else prove '..UptoSaid'. A law counts once. -/
mutual
def uptoBulk {H : Type} : DataW H → Nat
  | .lit (.string bytes) => bytes.length + 1
  | .lit _ => 1
  | .nil => 1
  | .ptr d => uptoBulk d + 1
  | .slice elems spare => uptoBulkAll elems + uptoBulkAll spare + 1
  | .agg parts => uptoBulkAll parts + 1
  | .iface _ d => uptoBulk d + 1
  | .map entries => uptoBulkEntries entries + 1
  | .held _ => 1
def uptoBulkAll {H : Type} : List (DataW H) → Nat
  | [] => 0
  | d :: r => uptoBulk d + uptoBulkAll r
def uptoBulkEntries {H : Type} : List (Lit × DataW H) → Nat
  | [] => 0
  | x :: r => uptoBulkEntry x + uptoBulkEntries r
def uptoBulkEntry {H : Type} : Lit × DataW H → Nat
  | (.string bytes, d) => bytes.length + uptoBulk d + 1
  | (_, d) => uptoBulk d + 1
 end
def uptoSmall : (H : Type) → List (DataW H) → Bool := fun _ ds => decide (uptoBulkAll ds ≤ 1048576)
def OpenSpec.upto (s : _root_.Go.ChangeSpec) : _root_.Go.OpenSpec := { _root_.Go.OpenSpec.ofChange s with cond := some uptoSmall }

/-- 'collatorlaw18.LiaSolves', WHERE WHAT IT READS IS OF BULK AT MOST 1048576: true; the input reads as it did. -/
def liaSolvesUptoRow : OpenClaim := { program := "ytphjffbldhhdiaa", sum := "043d7f059e84ac37f1337d21cfe7b18fc4279fc77cb6d767545905c2a07fb2ca", func := "collator/collatorlaw18.LiaSolves", spec := "liaSolves", unfollowed := true, recurses := true, apart := false, narrowed := true }
def LiaSolvesUptoSaid : Prop := liaSolvesUptoRow.holds Try.pinned (OpenSpec.upto liaSolvesSpec)

/-- 'collatorlaw18.LiaFinds', WHERE WHAT IT READS IS OF BULK AT MOST 1048576: true; the input reads as it did. -/
def liaFindsUptoRow : OpenClaim := { program := "ytphjffbldhhdiaa", sum := "043d7f059e84ac37f1337d21cfe7b18fc4279fc77cb6d767545905c2a07fb2ca", func := "collator/collatorlaw18.LiaFinds", spec := "liaFinds", unfollowed := true, recurses := true, apart := false, narrowed := true }
def LiaFindsUptoSaid : Prop := liaFindsUptoRow.holds Try.pinned (OpenSpec.upto liaFindsSpec)

/-- 'collatorlaw18.LiaFuel', WHERE WHAT IT READS IS OF BULK AT MOST 1048576: true; the input reads as it did. -/
def liaFuelUptoRow : OpenClaim := { program := "ytphjffbldhhdiaa", sum := "043d7f059e84ac37f1337d21cfe7b18fc4279fc77cb6d767545905c2a07fb2ca", func := "collator/collatorlaw18.LiaFuel", spec := "liaFuel", unfollowed := true, recurses := true, apart := false, narrowed := true }
def LiaFuelUptoSaid : Prop := liaFuelUptoRow.holds Try.pinned (OpenSpec.upto liaFuelSpec)

/-- 'collatorlaw18.LiaShifted', WHERE WHAT IT READS IS OF BULK AT MOST 1048576: true; the input reads as it did. -/
def liaShiftedUptoRow : OpenClaim := { program := "ytphjffbldhhdiaa", sum := "043d7f059e84ac37f1337d21cfe7b18fc4279fc77cb6d767545905c2a07fb2ca", func := "collator/collatorlaw18.LiaShifted", spec := "liaShifted", unfollowed := true, recurses := true, apart := false, narrowed := true }
def LiaShiftedUptoSaid : Prop := liaShiftedUptoRow.holds Try.pinned (OpenSpec.upto liaShiftedSpec)

/-- 'collatorlaw18.LiaBox', WHERE WHAT IT READS IS OF BULK AT MOST 1048576: true; the input reads as it did. -/
def liaBoxUptoRow : OpenClaim := { program := "ytphjffbldhhdiaa", sum := "043d7f059e84ac37f1337d21cfe7b18fc4279fc77cb6d767545905c2a07fb2ca", func := "collator/collatorlaw18.LiaBox", spec := "liaBox", unfollowed := true, recurses := true, apart := false, narrowed := true }
def LiaBoxUptoSaid : Prop := liaBoxUptoRow.holds Try.pinned (OpenSpec.upto liaBoxSpec)

end Rows
end Go.Proofs.Ytphjffbldhhdiaa
