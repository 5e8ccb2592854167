/- tree.Read: by its contract. -/
import Derived.Test.YtajlibegalbbmaaDoorTRead
namespace Go.Proofs.YtajlibegalbbmaaDoor
open Go.RowKit

theorem tcatch_idle (g4 g5 : Nat) (w : World) :
    CallsD Tryd.prog 29 #[.pointer (some ⟨g4, 0, none⟩), .pointer (some ⟨g5, 0, none⟩)] .returning w fun e u' w' => e = .returned (.tuple #[]) ∧ u' = .returning ∧ w' = w := by
  refine callsD_of_wpS Tryd.func29 rfl fun c₀ cs hu => ?_
  apply wpS_seq
  apply wpS_region
  simp [wpOpsS, go_sem, recoverD, hu, Tryd.ntmps29, Exit.thenS]
  refine wpS_of_wp ?_
  go_wp2
  cases c₀
  simp_all [bodyPostS, results, Tryd.results29]

/-- A fault, as it is panicked with. -/
def faultCA (c a : Int) : Value := .iface 31 (.agg #[.int .i64 c, .int .i64 a])
def TCatchPost (B g4 g5 : Nat) (c a : Int) (w : World) (e : Ending) (u' : FrameMode) (w' : World) : Prop :=
  e = .returned (.tuple #[]) ∧ u' = .panicking [{ v := faultCA c a, recovered := true }] ∧ w'.cell? ⟨g4, 0, none⟩ = some (.slice none 0 0) ∧ w'.cell? ⟨g5, 0, none⟩ = some (.int .i64 c) ∧ w'.cell? ⟨g5, 1, none⟩ = some (.int .i64 a) ∧ Below B w w'

theorem tcatch_panicking (B g4 g5 : Nat) (c a : Int) (v4 v5 v6 : Value) (w : World) (h4 : w.cell? ⟨g4, 0, none⟩ = some v4) (f4 : w.frozen? ⟨g4, 0, none⟩ = false) (h5 : w.cell? ⟨g5, 0, none⟩ = some v5) (h6 : w.cell? ⟨g5, 1, none⟩ = some v6)
    (f5 : w.frozen? ⟨g5, 0, none⟩ = false) (f6 : w.frozen? ⟨g5, 1, none⟩ = false) (hB : B ≤ g4) (h45 : g4 < g5) (hlt : g5 < w.heap.size) :
    CallsD Tryd.prog 29 #[.pointer (some ⟨g4, 0, none⟩), .pointer (some ⟨g5, 0, none⟩)] (.panicking [{ v := faultCA c a, recovered := false }]) w (TCatchPost B g4 g5 c a w) := by
  generalize hP : TCatchPost B g4 g5 c a w = Post
  refine callsD_of_wpS Tryd.func29 rfl fun c₀ cs hu => ?_
  apply wpS_seq
  apply wpS_region
  simp [wpOpsS, go_sem, recoverD, hu, Tryd.ntmps29, Exit.thenS, Array.replicate]
  refine wpS_of_wp ?_
  unfold faultCA
  have HP := hide hP
  clear hP
  have hta := assert_fault
  go_wp2
  have hb : Below w.heap.size w (w.alloc (.cells #[.int .i64 c, .int .i64 a] 31)) := (Below.refl _ _).alloc (Nat.le_refl _) _
  have hn := Blk.new w 31 #[.int .i64 c, .int .i64 a]
  generalize hW : w.alloc (.cells #[.int .i64 c, .int .i64 a] 31) = W1 at hb hn ⊢
  clear hW
  replace h4 : W1.cell? ⟨g4, 0, none⟩ = some v4 := (hb.cell (by simp; omega)).trans h4
  replace f4 : W1.frozen? ⟨g4, 0, none⟩ = false := (hb.frozen (by simp; omega)).trans f4
  replace h5 : W1.cell? ⟨g5, 0, none⟩ = some v5 := (hb.cell (by simp; omega)).trans h5
  replace f5 : W1.frozen? ⟨g5, 0, none⟩ = false := (hb.frozen (by simp; omega)).trans f5
  replace h6 : W1.cell? ⟨g5, 1, none⟩ = some v6 := (hb.cell (by simp; omega)).trans h6
  replace f6 : W1.frozen? ⟨g5, 1, none⟩ = false := (hb.frozen (by simp; omega)).trans f6
  have n0 : W1.cell? ⟨w.heap.size, 0, none⟩ = some (.int .i64 c) := hn.cell 0
  have n1 : W1.cell? ⟨w.heap.size, 1, none⟩ = some (.int .i64 a) := hn.cell 1
  go_region
  all_goals
    go_wp2
    have hne : ¬ g4 = g5 := by omega
    have hPost : Post (.returned (.tuple #[])) (.panicking [{ v := faultCA c a, recovered := true }]) ((((W1.setCell ⟨g4, 0, none⟩ (.slice none 0 0)).setCell ⟨g5, 0, none⟩ (.int .i64 c)).setCell ⟨g5, 1, none⟩ (.int .i64 a)).drew) := by
      rw [← HP.out]
      refine ⟨rfl, rfl, ?_, ?_, ?_, ?_⟩
      · simp [go_sem, h4]
      · simp [go_sem, h5]
      · simp [go_sem, h6]
      · exact (((((hb.mono (by omega)).setCell (p := ⟨g4, 0, none⟩) (by simpa using hB) _).setCell (p := ⟨g5, 0, none⟩) (by simp; omega) _).setCell (p := ⟨g5, 1, none⟩) (by simp; omega) _)).drew
    cases c₀
    simp [bodyPostS, results, Tryd.results29]
    exact hPost

/-- What tree.Read leaves. -/
def TReadPost (w : World) (r : Except (Int × Int) (List Tr)) (e : Ending) (w' : World) : Prop :=
  Below w.heap.size w w' ∧ match r with
  | .error x => e = .returned (.tuple #[.slice none 0 0, faultAgg x.1 x.2])
  | .ok ts => ∃ v, e = .returned (.tuple #[v, faultAgg 0 0]) ∧ RepV w' (fun b => w.heap.size ≤ b) ts v
theorem TokIn.keep {w w' : World} {B B' : Nat} {a : Option Addr} {ts : List Tok} (h : TokIn w B a ts) (hb : Below B w w') (hB : B ≤ B') : TokIn w' B' a ts := by
  intro hn
  obtain ⟨b, off, e, hlt, hc⟩ := h hn
  refine ⟨b, off, e, by omega, fun i hi => ?_⟩
  obtain ⟨h0, h1, h2⟩ := hc i hi
  exact ⟨(hb.cell (by simpa using hlt)).trans h0, (hb.cell (by simpa using hlt)).trans h1, (hb.cell (by simpa using hlt)).trans h2⟩

set_option maxRecDepth 100000 in
set_option maxHeartbeats 1600000 in
theorem tReads_any (w : World) (ta : Option Addr) (cap : Nat) (toks : List Tok) (deep : Int) (ht : TokIn w w.heap.size ta toks) (hl : toks.length ≤ 100000) :
    Calls Tryd.prog 14 #[.slice ta toks.length cap, .int .i64 deep] w (TReadPost w (treesT deep toks)) := by
  generalize hP : TReadPost w (treesT deep toks) = Post
  have HP := hide hP
  clear hP
  go_enter_defers Tryd.func14, Tryd.ntmps14
  have hb : Below w.heap.size w ((w.alloc (.cells #[.slice none 0 0] 37)).alloc (.cells #[.int .i64 0, .int .i64 0] 31)) := ((Below.refl _ _).alloc (Nat.le_refl _) _).alloc (by simp) _
  have b4 : Blk ((w.alloc (.cells #[.slice none 0 0] 37)).alloc (.cells #[.int .i64 0, .int .i64 0] 31)) w.heap.size 37 #[.slice none 0 0] := (Blk.new w _ _).alloc _
  have b5 : Blk ((w.alloc (.cells #[.slice none 0 0] 37)).alloc (.cells #[.int .i64 0, .int .i64 0] 31)) (w.heap.size + 1) 31 #[.int .i64 0, .int .i64 0] := by have h := Blk.new (w.alloc (.cells #[.slice none 0 0] 37)) 31 #[.int .i64 0, .int .i64 0]; rwa [World.size_alloc] at h
  have hsz : ((w.alloc (.cells #[.slice none 0 0] 37)).alloc (.cells #[.int .i64 0, .int .i64 0] 31)).heap.size = w.heap.size + 1 + 1 := by simp
  go_wp2_with fail
  generalize hW : (w.alloc (.cells #[.slice none 0 0] 37)).alloc (.cells #[.int .i64 0, .int .i64 0] 31) = W0 at hb b4 b5 hsz ⊢
  clear hW
  have hwt := hb.size
  refine (tread_any ta cap toks (max deep 0) W0 (ht.keep hb hwt) hl).mono ?_
  intro e w1 hpost
  obtain ⟨hb1, hpost⟩ := hpost
  replace b4 := b4.below hb1 (by omega)
  replace b5 := b5.below hb1 (by omega)
  have hb2 := hb.trans (hb1.mono hwt)
  have hs1 := hb1.size
  have c4 := b4.cell 0
  have d4 := b4.frozen 0
  have c5 := b5.cell 0
  have c6 := b5.cell 1
  have d5 := b5.frozen 0
  have d6 := b5.frozen 1
  have hr : runT (max deep 0) [] ⟨false, (0, [], 0), []⟩ toks = treesT deep toks := rfl
  rw [hr] at hpost
  clear hr
  cases hr : treesT deep toks with
  | error x =>
    rw [hr] at hpost
    simp only at hpost
    subst hpost
    unfold failT
    have HR := hide hr
    clear hr
    go_wp2_with fail
    refine leaves_cons (f := 29) (args := #[.pointer (some ⟨w.heap.size, 0, none⟩), .pointer (some ⟨w.heap.size + 1, 0, none⟩)]) (by simp) (by simp [go_sem]) ?_
    refine (tcatch_panicking w.heap.size w.heap.size (w.heap.size + 1) x.1 x.2 _ _ _ w1 c4 d4 c5 c6 d5 d6 (Nat.le_refl _) (by omega) (by omega)).mono ?_
    rintro e u' w2 ⟨rfl, rfl, e4, e5, e6, hB⟩
    have hPost : Post (.returned (.tuple #[.slice none 0 0, faultAgg x.1 x.2])) w2 := by
      rw [← HP.out, HR.out]
      exact ⟨hb2.trans hB, rfl⟩
    simp [Leaves, settle, results, Tryd.results14, go_sem, e4, e5, e6]
    simpa [faultAgg] using hPost
  | ok ts =>
    rw [hr] at hpost
    simp only at hpost
    obtain ⟨v, rfl, hv⟩ := hpost
    obtain ⟨ka, kc, rfl, -⟩ := id hv
    have HR := hide hr
    clear hr
    go_wp2_with fail
    refine leaves_cons (f := 29) (args := #[.pointer (some ⟨w.heap.size, 0, none⟩), .pointer (some ⟨w.heap.size + 1, 0, none⟩)]) (by simp) (by simp [go_sem]) ?_
    refine (tcatch_idle w.heap.size (w.heap.size + 1) _).mono ?_
    rintro e u' w'' ⟨rfl, rfl, rfl⟩
    have hPost : Post (.returned (.tuple #[.slice ka ts.length kc, faultAgg 0 0])) (((w1.setCell ⟨w.heap.size, 0, none⟩ (.slice ka ts.length kc)).setCell ⟨w.heap.size + 1, 0, none⟩ (.int .i64 0)).setCell ⟨w.heap.size + 1, 1, none⟩ (.int .i64 0)) := by
      rw [← HP.out, HR.out]
      refine ⟨((hb2.setCell (p := ⟨w.heap.size, 0, none⟩) (Nat.le_refl _) _).setCell (p := ⟨w.heap.size + 1, 0, none⟩) (by simp) _).setCell (p := ⟨w.heap.size + 1, 1, none⟩) (by simp) _, _, rfl, hv.keep (fun b _ hB => ⟨by omega, ?_⟩) (by simp)⟩
      rw [Below.heap_setCell _ _ _ _ (by simp; omega), Below.heap_setCell _ _ _ _ (by simp; omega), Below.heap_setCell _ _ _ _ (by simp; omega)]
    simp [Leaves, settle, results, Tryd.results14, go_sem, c4, c5, c6]
    exact hPost
end Go.Proofs.YtajlibegalbbmaaDoor
