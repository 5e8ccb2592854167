/- The statements' example. -/
import Derived.Test.YtajlibegalbbmaaDoorSame
import Derived.Lib.SlBytesConst
namespace Go.Proofs.YtajlibegalbbmaaDoor
open Go.RowKit

def exText : List UInt8 := [40, 102, 32, 35, 120, 49, 70, 32, 124, 97, 32, 98, 124, 41]
def exToks : List (Nat × List UInt8 × Nat) := [(1, [40], 0), (3, [102], 1), (7, [49, 70], 3), (3, [97, 32, 98], 8), (2, [41], 13)]
theorem ex_lex : lex exText = .ok exToks := by kernel_rfl
theorem ex_bad : lex [92] = .error 0 := by kernel_rfl

theorem txt_new (w : World) (bs : List UInt8) (fr : Nat × Nat) : Txt (w.alloc (.cells (bs.map fun u => Value.int .u8 (u.toNat : Int)).toArray 5 fr)) (w.alloc (.cells (bs.map fun u => Value.int .u8 (u.toNat : Int)).toArray 5 fr)).heap.size (some ⟨w.heap.size, 0, none⟩) bs := by
  intro _
  refine ⟨w.heap.size, 0, rfl, by simp, fun i hi => ?_⟩
  rw [World.cell?_alloc_mark]
  simp [List.getElem?_eq_getElem hi]

theorem TokRow.below {w w' : World} {B : Nat} {a : Option Addr} {toks : List (Nat × List UInt8 × Nat)} (h : TokRow w a toks) (hb : Below B w w') (hB : w.heap.size ≤ B) : TokRow w' a toks := by
  intro hn
  obtain ⟨b, off, e, hc⟩ := h hn
  have hlt : b < B := by
    have := World.block_lt_of_cell? w _ (hc 0 hn).1
    simp at this
    omega
  exact ⟨b, off, e, fun i hi => ⟨(hb.cell (by simpa using hlt)).trans (hc i hi).1, (hb.cell (by simpa using hlt)).trans (hc i hi).2.1, (hb.cell (by simpa using hlt)).trans (hc i hi).2.2⟩⟩

theorem Blk.c2 {w : World} {g : Nat} {t : TypeId} {a b : Value} (h : Blk w g t #[a, b]) : w.cell? ⟨g, 0, none⟩ = some a ∧ w.cell? ⟨g, 1, none⟩ = some b ∧ ∀ i, w.frozen? ⟨g, i, none⟩ = false :=
  ⟨h.cell 0, h.cell 1, h.frozen⟩

set_option maxHeartbeats 1600000 in
theorem speaks_any (w : World) : Calls Tryd.prog 8 #[] w fun e w' => e = .returned (.bool true) ∧ Below w.heap.size w w' := by
  have kc := fun (w : World) (C : Array Value) (n c : Nat) => Lib.run_convert_bytes_const (P := Tryd.prog) w 24 5 C n c Tryd.underlying24 Tryd.underlying5
  go_enter Tryd.func8, Tryd.ntmps8
  go_wp2_with fail
  have hB1 : Below w.heap.size w (w.alloc (.cells (exText.map fun u => Value.int .u8 (u.toNat : Int)).toArray 5 (14, 15))) := (Below.refl _ _).alloc (Nat.le_refl _) _
  have t1 := txt_new w exText (14, 15)
  refine (read_any (w.alloc (.cells (exText.map fun u => Value.int .u8 (u.toNat : Int)).toArray 5 (14, 15))) (some ⟨w.heap.size, 0, none⟩) 14 exText 99 t1 (by decide) (by decide)).mono ?_
  generalize w.alloc (.cells (exText.map fun u => Value.int .u8 (u.toNat : Int)).toArray 5 (14, 15)) = W1 at hB1
  clear t1
  intro e w2 hpost
  obtain ⟨hB2, hpost⟩ := hpost
  rw [if_neg (by decide), ex_lex] at hpost
  obtain ⟨v, rfl, hown⟩ := hpost
  obtain ⟨va, vc, rfl⟩ := own_slice hown
  have hrow := row_of_own hown rfl
  replace hB2 : Below w.heap.size w w2 := hB1.trans (hB2.mono hB1.size)
  clear hB1 hown
  unfold faultAgg
  have kc2 := kc (w2.alloc (.cells #[.int .i64 0, .int .i64 0] 31)) #[.int .u8 92] 1 1
  have hsz : (w2.alloc (.cells #[.int .i64 0, .int .i64 0] 31)).heap.size = w2.heap.size + 1 := by simp
  rw [hsz] at kc2
  clear kc
  go_wp2_with fail
  have hl2 : ((92 : UInt8).toNat : Int) = 92 := rfl
  have t3 := txt_new (w2.alloc (.cells #[.int .i64 0, .int .i64 0] 31)) [92] (1, 2)
  have b2 : Blk ((w2.alloc (.cells #[.int .i64 0, .int .i64 0] 31)).alloc (.cells (([92] : List UInt8).map fun u => Value.int .u8 (u.toNat : Int)).toArray 5 (1, 2))) w2.heap.size 31 #[.int .i64 0, .int .i64 0] := (Blk.new w2 _ _).alloc _
  have hB3 : Below w2.heap.size w2 ((w2.alloc (.cells #[.int .i64 0, .int .i64 0] 31)).alloc (.cells (([92] : List UInt8).map fun u => Value.int .u8 (u.toNat : Int)).toArray 5 (1, 2))) := ((Below.refl _ _).alloc (Nat.le_refl _) _).alloc (by simp) _
  rw [hsz] at t3
  refine (read_any ((w2.alloc (.cells #[.int .i64 0, .int .i64 0] 31)).alloc (.cells (([92] : List UInt8).map fun u => Value.int .u8 (u.toNat : Int)).toArray 5 (1, 2))) (some ⟨w2.heap.size + 1, 0, none⟩) 1 [92] 99 t3 (by decide) (by decide)).mono ?_
  generalize (w2.alloc (.cells #[.int .i64 0, .int .i64 0] 31)).alloc (.cells (([92] : List UInt8).map fun u => Value.int .u8 (u.toNat : Int)).toArray 5 (1, 2)) = W3 at hB3 b2
  clear t3 kc2 hl2 hsz
  intro e w4 hpost
  obtain ⟨hB4, hpost⟩ := hpost
  rw [if_neg (by decide), ex_bad] at hpost
  obtain rfl := hpost
  have b4 := b2.below hB4 b2.lt
  have hrow4 := (hrow.below hB3 (Nat.le_refl _)).below hB4 (Nat.le_refl _)
  have hB5 : Below w.heap.size w w4 := hB2.trans ((hB3.trans (hB4.mono hB3.size)).mono hB2.size)
  have hlt := b4.lt
  clear hrow hB2 hB3 hB4 b2
  obtain ⟨b, off, rfl, hc⟩ := hrow4 (by decide)
  obtain ⟨x0, x1, x2⟩ := hc 2 (by decide)
  obtain ⟨f0, f1, -⟩ := b4.c2
  have hbl := World.block_lt_of_cell? w4 _ x0
  simp at hbl
  have y0 : w4.cell? ⟨b, off + 6, none⟩ = some (.int .i64 7) := x0
  have y1 : w4.cell? ⟨b, off + 6 + 1, none⟩ = some (.string ⟨#[49, 70]⟩) := x1
  have y2 : w4.cell? ⟨b, off + 6 + 2, none⟩ = some (.int .i64 3) := x2
  clear x0 x1 x2 hc b4
  have hlen : exToks.length = 5 := rfl
  rw [hlen]
  unfold faultAgg
  go_wp2_with fail
  go_ret
  exact ⟨rfl, hB5.alloc hB5.size _⟩
end Go.Proofs.YtajlibegalbbmaaDoor
