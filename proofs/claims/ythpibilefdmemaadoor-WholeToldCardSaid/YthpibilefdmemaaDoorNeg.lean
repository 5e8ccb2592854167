/- whole.Neg: by its contract. -/
import Derived.Test.YthpibilefdmemaaDoorAdd
namespace Go.Proofs.YthpibilefdmemaaDoor
open Go.RowKit

set_option maxRecDepth 100000 in
set_option maxHeartbeats 1600000 in
theorem Neg_any {x : Int} {u : Value} (w : World) (hx : IntV w u x) (hn : Sm x) :
    Calls Tryd.prog 29 #[u] w (IntPost w (-x)) := by
  generalize hP : IntPost w (-x) = Post
  have HP := hide hP
  clear hP
  obtain ⟨a, ca, rfl, ha, hda⟩ := id hx
  have HX0 := hx
  clear hx
  have hX0 : Blk ((w.alloc (.cells #[.bool (decide (x < 0)), .slice a (dg BB x.natAbs).length ca] 24)).alloc (.cells #[.bool false, .slice none 0 0] 24)) w.heap.size 24 #[.bool (decide (x < 0)), .slice a (dg BB x.natAbs).length ca] := (Blk.new w _ _).alloc _
  have hZ0 : Blk ((w.alloc (.cells #[.bool (decide (x < 0)), .slice a (dg BB x.natAbs).length ca] 24)).alloc (.cells #[.bool false, .slice none 0 0] 24)) (w.heap.size + 1) 24 #[.bool false, .slice none 0 0] := by
    have h := Blk.new (w.alloc (.cells #[.bool (decide (x < 0)), .slice a (dg BB x.natAbs).length ca] 24)) 24 #[.bool false, .slice none 0 0]
    simp only [World.size_alloc] at h
    exact h
  have hB0 : Below w.heap.size w ((w.alloc (.cells #[.bool (decide (x < 0)), .slice a (dg BB x.natAbs).length ca] 24)).alloc (.cells #[.bool false, .slice none 0 0] 24)) := ((Below.refl _ _).alloc (Nat.le_refl _) _).alloc (by simp) _
  go_enter Tryd.func29, Tryd.ntmps29
  go_wp2_with fail
  generalize (w.alloc (.cells #[.bool (decide (x < 0)), .slice a (dg BB x.natAbs).length ca] 24)).alloc (.cells #[.bool false, .slice none 0 0] 24) = W at hX0 hZ0 hB0 ⊢
  have cxn := dg_canon BB2 x.natAbs
  have dxn : Digs BB (dg BB x.natAbs) := cxn.1
  have hsx : (dg BB x.natAbs).length ≤ 1099511627776 := hn
  have HV : Hid (signZ (!decide (x < 0)) (val BB (dg BB x.natAbs)) = -x) := hide (by
    rw [dg_val BB2]
    by_cases h0 : x < 0
    · simp [signZ, h0]; omega
    · simp [signZ, h0]; omega)
  refine (right_at HX0 hn hB0).mono ?_
  rintro e w1 ⟨rfl, hb1⟩
  have hX1 := hX0.below hb1 hX0.lt
  have hZ1 := hZ0.below hb1 hZ0.lt
  have hB1 : Below w.heap.size w w1 := hB0.trans (hb1.mono hB0.size)
  clear hX0 hZ0 hB0 hb1
  generalize decide (x < 0) = nx at *
  generalize dg BB x.natAbs = dx at *
  have hX2 := hX1.two (.bool nx) (.slice a dx.length ca)
  have hZ2 := (hZ1.far (p := ⟨w.heap.size, 0, none⟩) (by simp) (.bool nx)).far (p := ⟨w.heap.size, 1, none⟩) (by simp) (.slice a dx.length ca)
  have hB2 := (hB1.setCell (p := ⟨w.heap.size, 0, none⟩) (Nat.le_refl _) (.bool nx)).setCell (p := ⟨w.heap.size, 1, none⟩) (Nat.le_refl _) (.slice a dx.length ca)
  obtain ⟨c0, c1, cf⟩ := hX1.c2
  have hl1 := hX1.lt
  go_upto_region 2 with (fail)
  generalize (w1.setCell _ _).setCell _ _ = W1 at hX2 hZ2 hB2 ⊢
  clear c0 c1 cf hX1 hZ1 hB1 hl1
  obtain ⟨c0, c1, cf⟩ := hX2.c2
  have f20 := cf 0
  have f21 := cf 1
  have hR : Rs w [w.heap.size + 1] W1 := ⟨hB2, fun g hg => by obtain rfl := List.mem_singleton.1 hg; exact ⟨_, _, _, _, hZ2⟩⟩
  have hg4 : w.heap.size + 1 ∈ [w.heap.size + 1] := List.mem_singleton.2 rfl
  have hwC : w.heap.size ≤ w.heap.size + 1 := by omega
  have hgC2 : w.heap.size + 1 ≠ w.heap.size := by omega
  have hR1 := hR.drew
  go_region_held3 (fun w' => w'.cell? ⟨w.heap.size, 0, none⟩ = some (.bool nx) ∧ w'.cell? ⟨w.heap.size, 1, none⟩ = some (.slice a dx.length ca) ∧ w'.frozen? ⟨w.heap.size, 0, none⟩ = false ∧ w'.frozen? ⟨w.heap.size, 1, none⟩ = false ∧ Rs w [w.heap.size + 1] w')
    (first | with_reducible exact keep1 (by assumption) hb1 | with_reducible exact keepC1 hwC hgC2 _ _ _ _ (by assumption) | go_keep)
    (first
      | (go_at_call 72; (with_reducible refine (copied_at hda ha dxn hsx (by go_split_ands; exact Rs.bel (by assumption))).mono ?_); rintro e w1 ⟨ra, rc, rs, rfl, hrf, hrd, hrD, hrv, hrl, hb1⟩)
      | (go_at_call 61; (with_reducible refine (signed_any (!nx) ra rc rs _ hrd hrD hrf.le (by omega)).mono ?_); rintro e w2 ⟨r, rfl, hrI, hb1⟩; obtain ⟨rn, rb, rl, rk, rfl⟩ := hrI.parts; obtain ⟨_, _, _, _, k0, k1, kf0, kf1, hX4⟩ := Rs.at (c := w1) (gs := [w.heap.size + 1]) (by go_split_ands; assumption) hg4 hb1))
  rename_i hS
  obtain ⟨-, -, -, -, hRf⟩ := hS
  obtain ⟨e0, e1, -⟩ := (hX4.two (.bool rn) (.slice rb rl rk)).c2
  have hI := hrI.store hX4 (.bool rn) (.slice rb rl rk)
  rw [hrv, HV.out] at hI
  go_wp2_with fail
  refine bodyPost_ret (v := .agg #[.bool rn, .slice rb rl rk]) (by simp [results, Tryd.results29, go_sem, e0, e1]) rfl ?_
  rw [← HP.out]
  exact ⟨_, rfl, hI, hRf.1⟩
end Go.Proofs.YthpibilefdmemaaDoor
