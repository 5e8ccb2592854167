/- whole.Cmp: by its contract. -/
import Derived.Test.YthpibilefdmemaaDoorWhole1
import Derived.Deep.RegionHeld3
import Derived.Deep.RegionWith
import Derived.Deep.DeepCutAuto
namespace Go.Proofs.YthpibilefdmemaaDoor
open Go.RowKit

theorem below_undrew {w w' : World} (h : Below w.drew.heap.size w.drew w') : Below w.heap.size w w' := ⟨h.os, h.tape, h.output, h.size, h.block⟩
theorem keepTwo {w c w1 : World} {g2 g3 : Nat} {p q p' q' : Value} (h : c.cell? ⟨g2, 0, none⟩ = some p ∧ c.cell? ⟨g2, 1, none⟩ = some q ∧ c.cell? ⟨g3, 0, none⟩ = some p' ∧ c.cell? ⟨g3, 1, none⟩ = some q' ∧ c.frozen? ⟨g2, 0, none⟩ = false ∧ c.frozen? ⟨g2, 1, none⟩ = false ∧ c.frozen? ⟨g3, 0, none⟩ = false ∧ c.frozen? ⟨g3, 1, none⟩ = false ∧ Below w.heap.size w c) (hb : Below c.heap.size c w1) :
    w1.cell? ⟨g2, 0, none⟩ = some p ∧ w1.cell? ⟨g2, 1, none⟩ = some q ∧ w1.cell? ⟨g3, 0, none⟩ = some p' ∧ w1.cell? ⟨g3, 1, none⟩ = some q' ∧ w1.frozen? ⟨g2, 0, none⟩ = false ∧ w1.frozen? ⟨g2, 1, none⟩ = false ∧ w1.frozen? ⟨g3, 0, none⟩ = false ∧ w1.frozen? ⟨g3, 1, none⟩ = false ∧ Below w.heap.size w w1 := by
  obtain ⟨h1, h2, h3, h4, f1, f2, f3, f4, hB⟩ := h
  have l2 := World.block_lt_of_cell? c _ h1
  have l3 := World.block_lt_of_cell? c _ h3
  exact ⟨(hb.cell l2).trans h1, (hb.cell (p := ⟨g2, 1, none⟩) l2).trans h2, (hb.cell l3).trans h3, (hb.cell (p := ⟨g3, 1, none⟩) l3).trans h4, (hb.frozen l2).trans f1, (hb.frozen (p := ⟨g2, 1, none⟩) l2).trans f2, (hb.frozen l3).trans f3, (hb.frozen (p := ⟨g3, 1, none⟩) l3).trans f4, hB.trans (hb.mono hB.size)⟩
theorem keepA {w c : World} {g2 g3 : Nat} {p q p' q' : Value} (hw : w.heap.size ≤ g2) (hne : g2 ≠ g3) (h : c.cell? ⟨g2, 0, none⟩ = some p ∧ c.cell? ⟨g2, 1, none⟩ = some q ∧ c.cell? ⟨g3, 0, none⟩ = some p' ∧ c.cell? ⟨g3, 1, none⟩ = some q' ∧ c.frozen? ⟨g2, 0, none⟩ = false ∧ c.frozen? ⟨g2, 1, none⟩ = false ∧ c.frozen? ⟨g3, 0, none⟩ = false ∧ c.frozen? ⟨g3, 1, none⟩ = false ∧ Below w.heap.size w c) :
    ((c.setCell ⟨g2, 0, none⟩ p).setCell ⟨g2, 1, none⟩ q).cell? ⟨g2, 0, none⟩ = some p ∧ ((c.setCell ⟨g2, 0, none⟩ p).setCell ⟨g2, 1, none⟩ q).cell? ⟨g2, 1, none⟩ = some q ∧ ((c.setCell ⟨g2, 0, none⟩ p).setCell ⟨g2, 1, none⟩ q).cell? ⟨g3, 0, none⟩ = some p' ∧ ((c.setCell ⟨g2, 0, none⟩ p).setCell ⟨g2, 1, none⟩ q).cell? ⟨g3, 1, none⟩ = some q' ∧ ((c.setCell ⟨g2, 0, none⟩ p).setCell ⟨g2, 1, none⟩ q).frozen? ⟨g2, 0, none⟩ = false ∧ ((c.setCell ⟨g2, 0, none⟩ p).setCell ⟨g2, 1, none⟩ q).frozen? ⟨g2, 1, none⟩ = false ∧ ((c.setCell ⟨g2, 0, none⟩ p).setCell ⟨g2, 1, none⟩ q).frozen? ⟨g3, 0, none⟩ = false ∧ ((c.setCell ⟨g2, 0, none⟩ p).setCell ⟨g2, 1, none⟩ q).frozen? ⟨g3, 1, none⟩ = false ∧ Below w.heap.size w ((c.setCell ⟨g2, 0, none⟩ p).setCell ⟨g2, 1, none⟩ q) := by
  obtain ⟨h1, h2, h3, h4, f1, f2, f3, f4, hB⟩ := h
  refine ⟨?_, ?_, ?_, ?_, by simpa using f1, by simpa using f2, by simpa using f3, by simpa using f4, (hB.setCell hw _).setCell hw _⟩
  · rw [World.cell?_setCell_other _ _ _ _ (by simp)]; exact World.cell?_setCell_same _ _ _ h1
  · exact World.cell?_setCell_same _ _ _ ((World.cell?_setCell_other _ _ _ _ (by simp)).trans h2)
  · rw [World.cell?_setCell_other _ _ _ _ (fun e => hne (congrArg Addr.block e)), World.cell?_setCell_other _ _ _ _ (fun e => hne (congrArg Addr.block e))]; exact h3
  · rw [World.cell?_setCell_other _ _ _ _ (fun e => hne (congrArg Addr.block e)), World.cell?_setCell_other _ _ _ _ (fun e => hne (congrArg Addr.block e))]; exact h4
theorem keepB {w c : World} {g2 g3 : Nat} {p q p' q' : Value} (hw : w.heap.size ≤ g3) (hne : g3 ≠ g2) (h : c.cell? ⟨g2, 0, none⟩ = some p ∧ c.cell? ⟨g2, 1, none⟩ = some q ∧ c.cell? ⟨g3, 0, none⟩ = some p' ∧ c.cell? ⟨g3, 1, none⟩ = some q' ∧ c.frozen? ⟨g2, 0, none⟩ = false ∧ c.frozen? ⟨g2, 1, none⟩ = false ∧ c.frozen? ⟨g3, 0, none⟩ = false ∧ c.frozen? ⟨g3, 1, none⟩ = false ∧ Below w.heap.size w c) :
    ((c.setCell ⟨g3, 0, none⟩ p').setCell ⟨g3, 1, none⟩ q').cell? ⟨g2, 0, none⟩ = some p ∧ ((c.setCell ⟨g3, 0, none⟩ p').setCell ⟨g3, 1, none⟩ q').cell? ⟨g2, 1, none⟩ = some q ∧ ((c.setCell ⟨g3, 0, none⟩ p').setCell ⟨g3, 1, none⟩ q').cell? ⟨g3, 0, none⟩ = some p' ∧ ((c.setCell ⟨g3, 0, none⟩ p').setCell ⟨g3, 1, none⟩ q').cell? ⟨g3, 1, none⟩ = some q' ∧ ((c.setCell ⟨g3, 0, none⟩ p').setCell ⟨g3, 1, none⟩ q').frozen? ⟨g2, 0, none⟩ = false ∧ ((c.setCell ⟨g3, 0, none⟩ p').setCell ⟨g3, 1, none⟩ q').frozen? ⟨g2, 1, none⟩ = false ∧ ((c.setCell ⟨g3, 0, none⟩ p').setCell ⟨g3, 1, none⟩ q').frozen? ⟨g3, 0, none⟩ = false ∧ ((c.setCell ⟨g3, 0, none⟩ p').setCell ⟨g3, 1, none⟩ q').frozen? ⟨g3, 1, none⟩ = false ∧ Below w.heap.size w ((c.setCell ⟨g3, 0, none⟩ p').setCell ⟨g3, 1, none⟩ q') := by
  obtain ⟨h1, h2, h3, h4, f1, f2, f3, f4, hB⟩ := h
  obtain ⟨k3, k4, k1, k2, e3, e4, e1, e2, hB'⟩ := keepA hw hne ⟨h3, h4, h1, h2, f3, f4, f1, f2, hB⟩
  exact ⟨k1, k2, k3, k4, e1, e2, e3, e4, hB'⟩
theorem right_at {x : Int} {v : Value} {w c : World} (hx : IntV w v x) (hn : Sm x) (hB : Below w.heap.size w c) :
    Calls Tryd.prog 63 #[v] c fun e w' => e = .returned v ∧ Below c.heap.size c w' := right_any c (hx.below hB (Nat.le_refl _)) hn

set_option maxRecDepth 100000 in
set_option maxHeartbeats 1600000 in
theorem Cmp_any {x y : Int} {u v : Value} (w : World) (hx : IntV w u x) (hy : IntV w v y) (hn : Sm x) (hm : Sm y) :
    Calls Tryd.prog 33 #[u, v] w fun e w' => e = .returned (.int .i64 (ordZ x y)) ∧ Below w.heap.size w w' := by
  obtain ⟨a, ca, rfl, ha, hda⟩ := id hx
  obtain ⟨b, cb, rfl, hb, hdb⟩ := id hy
  generalize hr : ordZ x y = r
  have HR := hide hr
  have HX := hide hx
  have HY := hide hy
  clear hr hx hy
  have hb0 : Below w.heap.size w ((w.alloc (.cells #[.bool (decide (x < 0)), .slice a (dg BB x.natAbs).length ca] 24)).alloc (.cells #[.bool (decide (y < 0)), .slice b (dg BB y.natAbs).length cb] 24)) := ((Below.refl _ _).alloc (Nat.le_refl _) _).alloc (by simp) _
  have hX := (Blk.new w 24 #[.bool (decide (x < 0)), .slice a (dg BB x.natAbs).length ca]).alloc (.cells #[.bool (decide (y < 0)), .slice b (dg BB y.natAbs).length cb] 24)
  have hY := Blk.new (w.alloc (.cells #[.bool (decide (x < 0)), .slice a (dg BB x.natAbs).length ca] 24)) 24 #[.bool (decide (y < 0)), .slice b (dg BB y.natAbs).length cb]
  rw [World.size_alloc] at hY
  go_enter Tryd.func33, Tryd.ntmps33
  go_upto_region 1 with (fail)
  generalize (w.alloc (.cells #[.bool (decide (x < 0)), .slice a (dg BB x.natAbs).length ca] 24)).alloc (.cells #[.bool (decide (y < 0)), .slice b (dg BB y.natAbs).length cb] 24) = W at hb0 hX hY ⊢
  have HX0 := HX.out
  have HY0 := HY.out
  obtain ⟨c0, c1, cf⟩ := hX.c2
  obtain ⟨d0, d1, df⟩ := hY.c2
  have hl2 := hX.lt
  have hl3 := hY.lt
  have hB0 : Below w.heap.size w W.drew := hb0.drew
  have hwA : w.heap.size ≤ w.heap.size := Nat.le_refl _
  have hneA : w.heap.size ≠ w.heap.size + 1 := by omega
  have hwB : w.heap.size ≤ w.heap.size + 1 := by omega
  have hneB : w.heap.size + 1 ≠ w.heap.size := by omega
  have f20 := cf 0
  have f21 := cf 1
  have f30 := df 0
  have f31 := df 1
  have cxn := dg_canon BB2 x.natAbs
  have cyn := dg_canon BB2 y.natAbs
  have hvx := dg_val BB2 x.natAbs
  have hvy := dg_val BB2 y.natAbs
  have hsx : (dg BB x.natAbs).length ≤ 4611686018427387904 := by unfold Sm len at hn; omega
  have hsy : (dg BB y.natAbs).length ≤ 4611686018427387904 := by unfold Sm len at hm; omega
  have H00 : Hid (decide (x < 0) = false → decide (y < 0) = false → ordZ (val BB (dg BB x.natAbs)) (val BB (dg BB y.natAbs)) = ordZ x y) := hide (fun h1 h2 => by
    simp at h1 h2; rw [hvx, hvy, show (x.natAbs : Int) = x by omega, show (y.natAbs : Int) = y by omega])
  have H11 : Hid (decide (x < 0) = true → decide (y < 0) = true → ordZ (val BB (dg BB y.natAbs)) (val BB (dg BB x.natAbs)) = ordZ x y) := hide (fun h1 h2 => by
    simp at h1 h2
    rw [hvx, hvy]
    unfold ordZ
    split <;> split <;> (try split) <;> omega)
  have H10 : Hid (decide (x < 0) = true → decide (y < 0) = false → ordZ x y = -1) := hide (fun h1 h2 => by simp at h1 h2; unfold ordZ; rw [if_pos (by omega)])
  have H01 : Hid (decide (x < 0) = false → decide (y < 0) = true → ordZ x y = 1) := hide (fun h1 h2 => by simp at h1 h2; unfold ordZ; rw [if_neg (by omega), if_pos (by omega)])
  clear hvx hvy
  generalize decide (x < 0) = nx at *
  generalize decide (y < 0) = ny at *
  generalize dg BB x.natAbs = dx at *
  generalize dg BB y.natAbs = dy at *
  go_region_held3 (fun w' => w'.cell? ⟨w.heap.size, 0, none⟩ = some (.bool nx) ∧ w'.cell? ⟨w.heap.size, 1, none⟩ = some (.slice a dx.length ca) ∧ w'.cell? ⟨w.heap.size + 1, 0, none⟩ = some (.bool ny) ∧ w'.cell? ⟨w.heap.size + 1, 1, none⟩ = some (.slice b dy.length cb) ∧ w'.frozen? ⟨w.heap.size, 0, none⟩ = false ∧ w'.frozen? ⟨w.heap.size, 1, none⟩ = false ∧ w'.frozen? ⟨w.heap.size + 1, 0, none⟩ = false ∧ w'.frozen? ⟨w.heap.size + 1, 1, none⟩ = false ∧ Below w.heap.size w w')
    (first | with_reducible exact keepTwo (by assumption) hb1 | with_reducible exact keepA hwA hneA (by assumption) | with_reducible exact keepB hwB hneB (by assumption) | go_keep)
    (first
      | (go_at_call_of 63 (Value.agg #[.bool nx, .slice a dx.length ca]); (with_reducible refine (right_at HX0 hn (by go_split_ands; assumption)).mono ?_); rintro e w1 ⟨rfl, hb1⟩)
      | (go_at_call_of 63 (Value.agg #[.bool ny, .slice b dy.length cb]); (with_reducible refine (right_at HY0 hm (by go_split_ands; assumption)).mono ?_); rintro e w1 ⟨rfl, hb1⟩))
  rename_i hS
  generalize ((((w1.setCell _ _).setCell _ _).setCell _ _).setCell _ _) = W1 at hS ⊢
  clear c0 c1 cf d0 d1 df f20 f21 f30 f31 hl2 hl3 hB0 hb0 hb1 hX hY
  obtain ⟨c0, c1, d0, d1, -, -, -, -, hB⟩ := hS
  have hda1 := hda.below hB (Nat.le_refl _)
  have hdb1 := hdb.below hB (Nat.le_refl _)
  cases nx <;> cases ny
  · have HV := hide (H00.out rfl rfl)
    clear H00 H01 H10 H11
    go_wp2_with fail
    refine (compare_any a b ca cb dx dy W1 hda1 hdb1 cxn cyn hsx).mono ?_
    rintro e w2 ⟨rfl, n, rfl⟩
    go_wp2_with fail
    go_ret
    exact ⟨by rw [← HR.out, ← HV.out]; rfl, below_drewN hB n⟩
  · have HV := hide (H01.out rfl rfl)
    clear H00 H01 H10 H11
    go_wp2_with fail
    go_ret
    exact ⟨by rw [← HR.out, HV.out]; rfl, hB⟩
  · have HV := hide (H10.out rfl rfl)
    clear H00 H01 H10 H11
    go_wp2_with fail
    go_ret
    exact ⟨by rw [← HR.out, HV.out]; rfl, hB⟩
  · have HV := hide (H11.out rfl rfl)
    clear H00 H01 H10 H11
    go_wp2_with fail
    refine (compare_any b a cb ca dy dx W1 hdb1 hda1 cyn cxn hsy).mono ?_
    rintro e w2 ⟨rfl, n, rfl⟩
    go_wp2_with fail
    go_ret
    exact ⟨by rw [← HR.out, ← HV.out]; rfl, below_drewN hB n⟩
end Go.Proofs.YthpibilefdmemaaDoor
