/- The deferred closure of token.Read. -/
import Derived.Test.YtajlibegalbbmaaDoorQuoted
import Derived.Test.YtajlibegalbbmaaDoorNumber
namespace Go.Proofs.YtajlibegalbbmaaDoor
open Go.RowKit

theorem catch_idle (g4 g5 : Nat) (w : World) :
    CallsD Tryd.prog 26 #[.pointer (some ⟨g4, 0, none⟩), .pointer (some ⟨g5, 0, none⟩)] .returning w fun e u' w' => e = .returned (.tuple #[]) ∧ u' = .returning ∧ w' = w := by
  refine callsD_of_wpS Tryd.func26 rfl fun c₀ cs hu => ?_
  apply wpS_seq
  apply wpS_region
  simp [wpOpsS, go_sem, recoverD, hu, Tryd.ntmps26, Exit.thenS]
  refine wpS_of_wp ?_
  go_wp2
  cases c₀
  simp_all [bodyPostS, results, Tryd.results26]

def CatchPost (B g4 g5 p : Nat) (w : World) (e : Ending) (u' : FrameMode) (w' : World) : Prop :=
  e = .returned (.tuple #[]) ∧ u' = .panicking [{ v := faultV p, recovered := true }] ∧ w'.cell? ⟨g4, 0, none⟩ = some (.slice none 0 0) ∧ w'.cell? ⟨g5, 0, none⟩ = some (.int .i64 10) ∧ w'.cell? ⟨g5, 1, none⟩ = some (.int .i64 (p : Int)) ∧ Below B w w'

theorem assert_fault (v : Value) (w : World) : (Instr.typeAssert (.iface 31 v) 20 31 true).run Tryd.prog w = .ok (.tuple #[v, .bool true]) w := by kernel_rfl

theorem catch_panicking (B g4 g5 p : Nat) (v4 v5 v6 : Value) (w : World) (h4 : w.cell? ⟨g4, 0, none⟩ = some v4) (f4 : w.frozen? ⟨g4, 0, none⟩ = false) (h5 : w.cell? ⟨g5, 0, none⟩ = some v5) (h6 : w.cell? ⟨g5, 1, none⟩ = some v6)
    (f5 : w.frozen? ⟨g5, 0, none⟩ = false) (f6 : w.frozen? ⟨g5, 1, none⟩ = false) (hB : B ≤ g4) (h45 : g4 < g5) (hlt : g5 < w.heap.size) :
    CallsD Tryd.prog 26 #[.pointer (some ⟨g4, 0, none⟩), .pointer (some ⟨g5, 0, none⟩)] (.panicking [{ v := faultV p, recovered := false }]) w (CatchPost B g4 g5 p w) := by
  generalize hP : CatchPost B g4 g5 p w = Post
  refine callsD_of_wpS Tryd.func26 rfl fun c₀ cs hu => ?_
  apply wpS_seq
  apply wpS_region
  simp [wpOpsS, go_sem, recoverD, hu, Tryd.ntmps26, Exit.thenS, Array.replicate]
  refine wpS_of_wp ?_
  unfold faultV
  have HP := hide hP
  clear hP
  have hta := assert_fault
  go_wp2
  have hb : Below w.heap.size w (w.alloc (.cells #[.int .i64 10, .int .i64 (p : Int)] 31)) := (Below.refl _ _).alloc (Nat.le_refl _) _
  have hn := Blk.new w 31 #[.int .i64 10, .int .i64 (p : Int)]
  generalize hW : w.alloc (.cells #[.int .i64 10, .int .i64 (p : Int)] 31) = W1 at hb hn ⊢
  clear hW
  replace h4 : W1.cell? ⟨g4, 0, none⟩ = some v4 := (hb.cell (by simp; omega)).trans h4
  replace f4 : W1.frozen? ⟨g4, 0, none⟩ = false := (hb.frozen (by simp; omega)).trans f4
  replace h5 : W1.cell? ⟨g5, 0, none⟩ = some v5 := (hb.cell (by simp; omega)).trans h5
  replace f5 : W1.frozen? ⟨g5, 0, none⟩ = false := (hb.frozen (by simp; omega)).trans f5
  replace h6 : W1.cell? ⟨g5, 1, none⟩ = some v6 := (hb.cell (by simp; omega)).trans h6
  replace f6 : W1.frozen? ⟨g5, 1, none⟩ = false := (hb.frozen (by simp; omega)).trans f6
  have n0 : W1.cell? ⟨w.heap.size, 0, none⟩ = some (.int .i64 10) := hn.cell 0
  have n1 : W1.cell? ⟨w.heap.size, 1, none⟩ = some (.int .i64 (p : Int)) := hn.cell 1
  go_region
  all_goals
    go_wp2
    have hne : ¬ g4 = g5 := by omega
    have hPost : Post (.returned (.tuple #[])) (.panicking [{ v := faultV p, recovered := true }]) ((((W1.setCell ⟨g4, 0, none⟩ (.slice none 0 0)).setCell ⟨g5, 0, none⟩ (.int .i64 10)).setCell ⟨g5, 1, none⟩ (.int .i64 (p : Int))).drew) := by
      rw [← HP.out]
      refine ⟨rfl, rfl, ?_, ?_, ?_, ?_⟩
      · simp [go_sem, h4]
      · simp [go_sem, h5]
      · simp [go_sem, h6]
      · exact (((((hb.mono (by omega)).setCell (p := ⟨g4, 0, none⟩) (by simpa using hB) _).setCell (p := ⟨g5, 0, none⟩) (by simp; omega) _).setCell (p := ⟨g5, 1, none⟩) (by simp; omega) _)).drew
    cases c₀
    simp [bodyPostS, results, Tryd.results26]
    exact hPost
end Go.Proofs.YtajlibegalbbmaaDoor
