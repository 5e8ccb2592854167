/- Three integers in boxes; what came in; sizes. -/
import Derived.Test.YthpibilefdmemaaDoorLead
import Derived.Test.YthpibilefdmemaaDoorSmall
import Derived.Test.YthpibilefdmemaaDoorNeg
import Derived.Test.YthpibilefdmemaaDoorMul
namespace Go.Proofs.YthpibilefdmemaaDoor
open Go.RowKit

def Raw.val (r : Raw) : Value := .agg #[.bool r.neg, .slice r.at_ r.ds.length r.cap]
/-- An integer came in whole. -/
structure RawOk (w : World) (r : Raw) : Prop where
  dig : Dg .u32 w r.at_ r.ds
  fit : Fit r.at_ r.ds.length r.cap
  max : r.ds.length ≤ 9223372036854775807
theorem RawOk.int {w : World} {r : Raw} (h : RawOk w r) (ho : r.odd = false) : ∃ z : Int, IntV w r.val z ∧ len z ≤ 10 := by
  obtain ⟨n, a, c, ds⟩ := r
  simp only [Raw.odd, Bool.or_eq_false_iff, Bool.not_eq_false'] at ho
  obtain ⟨z, h1, h2⟩ := rightB_val ho.2
  subst h1 h2
  exact ⟨z, ⟨a, c, rfl, h.fit, h.dig⟩, by simpa [len] using ho.1⟩
theorem RawOk.below {w w' : World} {B : Nat} {r : Raw} (h : RawOk w r) (hb : Below B w w') (hB : w.heap.size ≤ B) : RawOk w' r := ⟨h.dig.below hb hB, h.fit, h.max⟩
theorem sm10 {z : Int} (h : len z ≤ 10) : Sm z := by unfold Sm; omega
theorem sm_add {x y : Int} (hx : len x ≤ 1000) (hy : len y ≤ 1000) : len (x + y) ≤ 1001 := by
  unfold len at *
  have h1 := dg_len_mono BB2 (show (x + y).natAbs ≤ x.natAbs + y.natAbs by omega)
  have h2 := dg_len_add BB2 x.natAbs y.natAbs
  omega
theorem sm_mul {x y : Int} (hx : len x ≤ 1000) (hy : len y ≤ 1000) : len (x * y) ≤ 2000 := by
  unfold len at *
  rw [Int.natAbs_mul]
  have h2 := dg_len_mul BB2 x.natAbs y.natAbs
  omega

/-- Three integers in boxes. -/
def Three (w : World) (B : Nat) (x y z : Raw) (c : World) : Prop :=
  Blk c B 24 #[.bool x.neg, .slice x.at_ x.ds.length x.cap] ∧ Blk c (B + 1) 24 #[.bool y.neg, .slice y.at_ y.ds.length y.cap] ∧ Blk c (B + 2) 24 #[.bool z.neg, .slice z.at_ z.ds.length z.cap] ∧ Below w.heap.size w c
theorem Three.grow {w c c' : World} {B : Nat} {x y z : Raw} (h : Three w B x y z c) (hb : Below c.heap.size c c') : Three w B x y z c' :=
  ⟨h.1.below hb h.1.lt, h.2.1.below hb h.2.1.lt, h.2.2.1.below hb h.2.2.1.lt, h.2.2.2.trans (hb.mono h.2.2.2.size)⟩


theorem odd3 (x y z : Raw) (w : World) (hx : RawOk w x) (hy : RawOk w y) (hz : RawOk w z) :
    Calls Tryd.prog 21 #[.slice (some ⟨w.heap.size, 0, none⟩) 3 3] (w.alloc (.cells #[.bool x.neg, .slice x.at_ x.ds.length x.cap, .bool y.neg, .slice y.at_ y.ds.length y.cap, .bool z.neg, .slice z.at_ z.ds.length z.cap] 24)) fun e w' => ∃ o, e = .returned (.bool o) ∧ Below w.heap.size w w' ∧ (o = false → x.odd = false ∧ y.odd = false ∧ z.odd = false) := by
  obtain ⟨W, hW⟩ : ∃ W, w.alloc (.cells #[.bool x.neg, .slice x.at_ x.ds.length x.cap, .bool y.neg, .slice y.at_ y.ds.length y.cap, .bool z.neg, .slice z.at_ z.ds.length z.cap] 24) = W := ⟨_, rfl⟩
  have hB : Blk W w.heap.size 24 #[.bool x.neg, .slice x.at_ x.ds.length x.cap, .bool y.neg, .slice y.at_ y.ds.length y.cap, .bool z.neg, .slice z.at_ z.ds.length z.cap] := by rw [← hW]; exact Blk.new _ _ _
  have hb : Below w.heap.size w W := by rw [← hW]; exact (Below.refl _ _).alloc (Nat.le_refl _) _
  rw [hW]
  have hr : RawRow W w.heap.size [x, y, z] := by
    intro i hi
    match i, hi with
    | 0, _ => exact ⟨hB.cell 0, hB.cell 1, hx.dig.below hb (Nat.le_refl _), hx.max⟩
    | 1, _ => exact ⟨hB.cell 2, hB.cell 3, hy.dig.below hb (Nat.le_refl _), hy.max⟩
    | 2, _ => exact ⟨hB.cell 4, hB.cell 5, hz.dig.below hb (Nat.le_refl _), hz.max⟩
  refine (Odd_any w.heap.size [x, y, z] W hr (by simp)).mono ?_
  rintro e w' ⟨rfl, hb'⟩
  exact ⟨_, rfl, hb.trans (hb'.mono hb.size), fun h => by simpa using h⟩
theorem odd2 (x y : Raw) (w : World) (hx : RawOk w x) (hy : RawOk w y) :
    Calls Tryd.prog 21 #[.slice (some ⟨w.heap.size, 0, none⟩) 2 2] (w.alloc (.cells #[.bool x.neg, .slice x.at_ x.ds.length x.cap, .bool y.neg, .slice y.at_ y.ds.length y.cap] 24)) fun e w' => ∃ o, e = .returned (.bool o) ∧ Below w.heap.size w w' ∧ (o = false → x.odd = false ∧ y.odd = false) := by
  obtain ⟨W, hW⟩ : ∃ W, w.alloc (.cells #[.bool x.neg, .slice x.at_ x.ds.length x.cap, .bool y.neg, .slice y.at_ y.ds.length y.cap] 24) = W := ⟨_, rfl⟩
  have hB : Blk W w.heap.size 24 #[.bool x.neg, .slice x.at_ x.ds.length x.cap, .bool y.neg, .slice y.at_ y.ds.length y.cap] := by rw [← hW]; exact Blk.new _ _ _
  have hb : Below w.heap.size w W := by rw [← hW]; exact (Below.refl _ _).alloc (Nat.le_refl _) _
  rw [hW]
  have hr : RawRow W w.heap.size [x, y] := by
    intro i hi
    match i, hi with
    | 0, _ => exact ⟨hB.cell 0, hB.cell 1, hx.dig.below hb (Nat.le_refl _), hx.max⟩
    | 1, _ => exact ⟨hB.cell 2, hB.cell 3, hy.dig.below hb (Nat.le_refl _), hy.max⟩
  refine (Odd_any w.heap.size [x, y] W hr (by simp)).mono ?_
  rintro e w' ⟨rfl, hb'⟩
  exact ⟨_, rfl, hb.trans (hb'.mono hb.size), fun h => by simpa using h⟩

section
variable {w c : World} {x y : Int} {u v : Value}
theorem Add_at (hx : IntV w u x) (hy : IntV w v y) (hn : Sm x) (hm : Sm y) (hB : Below w.heap.size w c) : Calls Tryd.prog 25 #[u, v] c (IntPost c (x + y)) := Add_any c (hx.below hB (Nat.le_refl _)) (hy.below hB (Nat.le_refl _)) hn hm
theorem Mul_at (hx : IntV w u x) (hy : IntV w v y) (hn : Sm x) (hm : Sm y) (hB : Below w.heap.size w c) : Calls Tryd.prog 27 #[u, v] c (IntPost c (x * y)) := Mul_any c (hx.below hB (Nat.le_refl _)) (hy.below hB (Nat.le_refl _)) hn hm
theorem Cmp_at (hx : IntV w u x) (hy : IntV w v y) (hn : Sm x) (hm : Sm y) (hB : Below w.heap.size w c) {C : Int} (hC : ordZ x y = C) : Calls Tryd.prog 33 #[u, v] c fun e w' => e = .returned (.int .i64 C) ∧ Below c.heap.size c w' := by
  subst hC
  exact (Cmp_any c (hx.below hB (Nat.le_refl _)) (hy.below hB (Nat.le_refl _)) hn hm)
end
end Go.Proofs.YthpibilefdmemaaDoor
