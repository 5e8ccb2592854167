/- whole.Add: by its contract. -/
import Derived.Test.YthpibilefdmemaaDoorTwo
namespace Go.Proofs.YthpibilefdmemaaDoor
open Go.RowKit

set_option maxRecDepth 100000 in
set_option maxHeartbeats 3200000 in
theorem Add_any {x y : Int} {u v : Value} (w : World) (hx : IntV w u x) (hy : IntV w v y) (hn : Sm x) (hm : Sm y) :
    Calls Tryd.prog 25 #[u, v] w (IntPost w (x + y)) := by
  generalize hP : IntPost w (x + y) = Post
  have HP := hide hP
  clear hP
  obtain ⟨a, ca, rfl, ha, hda⟩ := id hx
  obtain ⟨b, cb, rfl, hb, hdb⟩ := id hy
  have HX0 := hx
  have HY0 := hy
  clear hx hy
  have hX0 : Blk (((w.alloc (.cells #[.bool (decide (x < 0)), .slice a (dg BB x.natAbs).length ca] 24)).alloc (.cells #[.bool (decide (y < 0)), .slice b (dg BB y.natAbs).length cb] 24)).alloc (.cells #[.bool false, .slice none 0 0] 24)) w.heap.size 24 #[.bool (decide (x < 0)), .slice a (dg BB x.natAbs).length ca] := ((Blk.new w _ _).alloc _).alloc _
  have hY0 : Blk (((w.alloc (.cells #[.bool (decide (x < 0)), .slice a (dg BB x.natAbs).length ca] 24)).alloc (.cells #[.bool (decide (y < 0)), .slice b (dg BB y.natAbs).length cb] 24)).alloc (.cells #[.bool false, .slice none 0 0] 24)) (w.heap.size + 1) 24 #[.bool (decide (y < 0)), .slice b (dg BB y.natAbs).length cb] := by
    have h := Blk.new (w.alloc (.cells #[.bool (decide (x < 0)), .slice a (dg BB x.natAbs).length ca] 24)) 24 #[.bool (decide (y < 0)), .slice b (dg BB y.natAbs).length cb]
    rw [World.size_alloc] at h
    exact h.alloc _
  have hZ0 : Blk (((w.alloc (.cells #[.bool (decide (x < 0)), .slice a (dg BB x.natAbs).length ca] 24)).alloc (.cells #[.bool (decide (y < 0)), .slice b (dg BB y.natAbs).length cb] 24)).alloc (.cells #[.bool false, .slice none 0 0] 24)) (w.heap.size + 1 + 1) 24 #[.bool false, .slice none 0 0] := by
    have h := Blk.new ((w.alloc (.cells #[.bool (decide (x < 0)), .slice a (dg BB x.natAbs).length ca] 24)).alloc (.cells #[.bool (decide (y < 0)), .slice b (dg BB y.natAbs).length cb] 24)) 24 #[.bool false, .slice none 0 0]
    simp only [World.size_alloc] at h
    exact h
  have hR0 : Rs w [w.heap.size + 1 + 1] (((w.alloc (.cells #[.bool (decide (x < 0)), .slice a (dg BB x.natAbs).length ca] 24)).alloc (.cells #[.bool (decide (y < 0)), .slice b (dg BB y.natAbs).length cb] 24)).alloc (.cells #[.bool false, .slice none 0 0] 24)) := by
    refine ⟨(((Below.refl w.heap.size w).alloc (Nat.le_refl _) _).alloc (by simp) _).alloc (by simp; omega) _, ?_⟩
    intro g hg
    simp at hg
    subst hg
    · exact ⟨_, _, _, _, hZ0⟩
  go_enter Tryd.func25, Tryd.ntmps25
  go_upto_region 1 with (fail)
  generalize ((w.alloc (.cells #[.bool (decide (x < 0)), .slice a (dg BB x.natAbs).length ca] 24)).alloc (.cells #[.bool (decide (y < 0)), .slice b (dg BB y.natAbs).length cb] 24)).alloc (.cells #[.bool false, .slice none 0 0] 24) = W at hX0 hY0 hR0 hZ0 ⊢
  clear hZ0
  obtain ⟨c0, c1, cf⟩ := hX0.c2
  obtain ⟨d0, d1, df⟩ := hY0.c2
  have hR1 := hR0.drew
  have hwA : w.heap.size ≤ w.heap.size := Nat.le_refl _
  have hneA : w.heap.size ≠ w.heap.size + 1 := by omega
  have hwB : w.heap.size ≤ w.heap.size + 1 := by omega
  have hneB : w.heap.size + 1 ≠ w.heap.size := by omega
  have hgA : w.heap.size ∉ [w.heap.size + 1 + 1] := by simp only [List.mem_cons, List.mem_nil_iff, or_false]; omega
  have hgB : w.heap.size + 1 ∉ [w.heap.size + 1 + 1] := by simp only [List.mem_cons, List.mem_nil_iff, or_false]; omega
  have f20 := cf 0
  have f21 := cf 1
  have f30 := df 0
  have f31 := df 1
  have cxn := dg_canon BB2 x.natAbs
  have cyn := dg_canon BB2 y.natAbs
  have dxn : Digs BB (dg BB x.natAbs) := cxn.1
  have dyn : Digs BB (dg BB y.natAbs) := cyn.1
  have hsx : (dg BB x.natAbs).length ≤ 1099511627776 := hn
  have hsy : (dg BB y.natAbs).length ≤ 1099511627776 := hm
  have hvx := dg_val BB2 x.natAbs
  have hvy := dg_val BB2 y.natAbs
  have HS : Hid (decide (x < 0) = decide (y < 0) → signZ (decide (x < 0)) (val BB (dg BB x.natAbs) + val BB (dg BB y.natAbs)) = x + y) := hide (fun h => by
    rw [hvx, hvy]
    by_cases h0 : x < 0
    · have h1 : y < 0 := by simpa [h0] using h
      simp [signZ, h0]; omega
    · have h1 : ¬ y < 0 := by simpa [h0] using h
      simp [signZ, h0]; omega)
  have HD1 : Hid (decide (x < 0) ≠ decide (y < 0) → val BB (dg BB y.natAbs) ≤ val BB (dg BB x.natAbs) → signZ (decide (x < 0)) (val BB (dg BB x.natAbs) - val BB (dg BB y.natAbs)) = x + y) := hide (fun h hle => by
    rw [hvx, hvy] at *
    by_cases h0 : x < 0
    · have h1 : ¬ y < 0 := by intro h1; exact h (by simp [h0, h1])
      simp [signZ, h0]; omega
    · have h1 : y < 0 := by rcases Int.lt_or_le y 0 with h1 | h1; exact h1; exact absurd (by simp [h0]; omega) h
      simp [signZ, h0]; omega)
  have HD2 : Hid (decide (x < 0) ≠ decide (y < 0) → val BB (dg BB x.natAbs) < val BB (dg BB y.natAbs) → signZ (decide (y < 0)) (val BB (dg BB y.natAbs) - val BB (dg BB x.natAbs)) = x + y) := hide (fun h hle => by
    rw [hvx, hvy] at *
    by_cases h0 : y < 0
    · have h1 : ¬ x < 0 := by intro h1; exact h (by simp [h0, h1])
      simp [signZ, h0]; omega
    · have h1 : x < 0 := by rcases Int.lt_or_le x 0 with h1 | h1; exact h1; exact absurd (by simp [h0]; omega) h
      simp [signZ, h0]; omega)
  clear hvx hvy
  generalize decide (x < 0) = nx at *
  generalize decide (y < 0) = ny at *
  generalize dg BB x.natAbs = dx at *
  generalize dg BB y.natAbs = dy at *
  go_region_held3 (fun w' => w'.cell? ⟨w.heap.size, 0, none⟩ = some (.bool nx) ∧ w'.cell? ⟨w.heap.size, 1, none⟩ = some (.slice a dx.length ca) ∧ w'.cell? ⟨w.heap.size + 1, 0, none⟩ = some (.bool ny) ∧ w'.cell? ⟨w.heap.size + 1, 1, none⟩ = some (.slice b dy.length cb) ∧ w'.frozen? ⟨w.heap.size, 0, none⟩ = false ∧ w'.frozen? ⟨w.heap.size, 1, none⟩ = false ∧ w'.frozen? ⟨w.heap.size + 1, 0, none⟩ = false ∧ w'.frozen? ⟨w.heap.size + 1, 1, none⟩ = false ∧ Rs w [w.heap.size + 1 + 1] w')
    (first | with_reducible exact keep2 (by assumption) hb1 | with_reducible exact keepA2 hwA hneA hgA (by assumption) | with_reducible exact keepB2 hwB hneB hgB (by assumption) | go_keep)
    (first
      | (go_at_call_of 63 (Value.agg #[.bool nx, .slice a dx.length ca]); (with_reducible refine (right_at HX0 hn (by go_split_ands; exact Rs.bel (by assumption))).mono ?_); rintro e w1 ⟨rfl, hb1⟩)
      | (go_at_call_of 63 (Value.agg #[.bool ny, .slice b dy.length cb]); (with_reducible refine (right_at HY0 hm (by go_split_ands; exact Rs.bel (by assumption))).mono ?_); rintro e w1 ⟨rfl, hb1⟩))
  rename_i hS
  generalize ((((w1.setCell _ _).setCell _ _).setCell _ _).setCell _ _) = W1 at hS ⊢
  clear c0 c1 cf d0 d1 df f20 f21 f30 f31 hb1 hX0 hY0 hR0 hR1
  obtain ⟨c0, c1, d0, d1, f20, f21, f30, f31, hR⟩ := hS
  have hda1 := hda.below hR.1 (Nat.le_refl _)
  have hdb1 := hdb.below hR.1 (Nat.le_refl _)
  have hg4 : w.heap.size + 1 + 1 ∈ [w.heap.size + 1 + 1] := List.mem_singleton.2 rfl
  have hwC : w.heap.size ≤ w.heap.size + 1 + 1 := by omega
  have hgC2 : w.heap.size + 1 + 1 ≠ w.heap.size := by omega
  have hgC3 : w.heap.size + 1 + 1 ≠ w.heap.size + 1 := by omega
  by_cases hs : nx = ny
  · subst hs
    have HV := hide (HS.out rfl)
    clear HS HD1 HD2
    go_upto_region 3 with (fail)
    have hR1 := hR.drew
    go_region_held3 (fun w' => w'.cell? ⟨w.heap.size, 0, none⟩ = some (.bool nx) ∧ w'.cell? ⟨w.heap.size, 1, none⟩ = some (.slice a dx.length ca) ∧ w'.cell? ⟨w.heap.size + 1, 0, none⟩ = some (.bool nx) ∧ w'.cell? ⟨w.heap.size + 1, 1, none⟩ = some (.slice b dy.length cb) ∧ w'.frozen? ⟨w.heap.size, 0, none⟩ = false ∧ w'.frozen? ⟨w.heap.size, 1, none⟩ = false ∧ w'.frozen? ⟨w.heap.size + 1, 0, none⟩ = false ∧ w'.frozen? ⟨w.heap.size + 1, 1, none⟩ = false ∧ Rs w [w.heap.size + 1 + 1] w')
      (first | with_reducible exact keep2 (by assumption) hb1 | with_reducible exact keepC2 hwC hgC2 hgC3 _ _ _ _ (by assumption) | go_keep)
      (first
        | (go_at_call 65; (with_reducible refine (plus_at hda hdb dxn dyn hsx hsy (by go_split_ands; exact Rs.bel (by assumption))).mono ?_); rintro e w1 ⟨ra, rc, rs, rfl, hrf, hrd, hrD, hrv, hrl, hb1⟩)
        | (go_at_call 61; (with_reducible refine (signed_any nx ra rc rs _ hrd hrD hrf.le (by omega)).mono ?_); rintro e w2 ⟨r, rfl, hrI, hb1⟩; obtain ⟨rn, rb, rl, rk, rfl⟩ := hrI.parts; obtain ⟨_, _, _, _, k0, k1, kf0, kf1, hX4⟩ := Rs.at (c := w1) (gs := [w.heap.size + 1 + 1]) (by go_split_ands; assumption) hg4 hb1))
    rename_i hS
    obtain ⟨-, -, -, -, -, -, -, -, hRf⟩ := hS
    obtain ⟨e0, e1, -⟩ := (hX4.two (.bool rn) (.slice rb rl rk)).c2
    have hI := hrI.store hX4 (.bool rn) (.slice rb rl rk)
    rw [hrv, HV.out] at hI
    go_wp2_with fail
    refine bodyPost_ret (v := .agg #[.bool rn, .slice rb rl rk]) (by simp [results, Tryd.results25, go_sem, e0, e1]) rfl ?_
    rw [← HP.out]
    exact ⟨_, rfl, hI, hRf.1⟩
  · have e1 : (nx == ny) = false := beq_eq_false_iff_ne.2 hs
    have HNE := hide hs
    clear hs HS
    go_wp2_with fail
    refine (compare_any a b ca cb dx dy W1 hda1 hdb1 cxn cyn (by omega)).mono ?_
    rintro e w2 ⟨rfl, n, rfl⟩
    have hS2 : (W1.drewN n).cell? ⟨w.heap.size, 0, none⟩ = some (.bool nx) ∧ (W1.drewN n).cell? ⟨w.heap.size, 1, none⟩ = some (.slice a dx.length ca) ∧ (W1.drewN n).cell? ⟨w.heap.size + 1, 0, none⟩ = some (.bool ny) ∧ (W1.drewN n).cell? ⟨w.heap.size + 1, 1, none⟩ = some (.slice b dy.length cb) ∧ (W1.drewN n).frozen? ⟨w.heap.size, 0, none⟩ = false ∧ (W1.drewN n).frozen? ⟨w.heap.size, 1, none⟩ = false ∧ (W1.drewN n).frozen? ⟨w.heap.size + 1, 0, none⟩ = false ∧ (W1.drewN n).frozen? ⟨w.heap.size + 1, 1, none⟩ = false ∧ Rs w [w.heap.size + 1 + 1] (W1.drewN n) := ⟨c0, c1, d0, d1, f20, f21, f30, f31, ⟨below_drewN hR.1 n, hR.2⟩⟩
    generalize W1.drewN n = W2 at hS2 ⊢
    clear c0 c1 d0 d1 f20 f21 f30 f31 hR hda1 hdb1
    by_cases hlt : val BB dx < val BB dy
    · have HV := hide (HD2.out HNE.out hlt)
      have hlen : dx.length ≤ dy.length := by
        rcases Nat.lt_or_ge dy.length dx.length with h | h
        · have := cyn.lt_of_len cxn h; omega
        · exact h
      have hv : val BB dx ≤ val BB dy := by omega
      have ho : ordZ (val BB dx) (val BB dy) = -1 := by unfold ordZ; rw [if_pos (by omega)]
      rw [ho]
      clear ho HD1 HD2 hlt
      have hS3 := keepSwap hwA hwB hneA hgA hgB hS2
      obtain ⟨c0, c1, d0, d1, f20, f21, f30, f31, hR⟩ := hS2
      go_upto_region 6 with (fail)
      generalize (((W2.setCell _ _).setCell _ _).setCell _ _).setCell _ _ = W3 at hS3 ⊢
      clear c0 c1 d0 d1 f20 f21 f30 f31 hR
      obtain ⟨c0, c1, d0, d1, f20, f21, f30, f31, hR⟩ := hS3
      have hR1 := hR.drew
      go_region_held3 (fun w' => w'.cell? ⟨w.heap.size, 0, none⟩ = some (.bool ny) ∧ w'.cell? ⟨w.heap.size, 1, none⟩ = some (.slice b dy.length cb) ∧ w'.cell? ⟨w.heap.size + 1, 0, none⟩ = some (.bool nx) ∧ w'.cell? ⟨w.heap.size + 1, 1, none⟩ = some (.slice a dx.length ca) ∧ w'.frozen? ⟨w.heap.size, 0, none⟩ = false ∧ w'.frozen? ⟨w.heap.size, 1, none⟩ = false ∧ w'.frozen? ⟨w.heap.size + 1, 0, none⟩ = false ∧ w'.frozen? ⟨w.heap.size + 1, 1, none⟩ = false ∧ Rs w [w.heap.size + 1 + 1] w')
        (first | with_reducible exact keep2 (by assumption) hb1 | with_reducible exact keepC2 hwC hgC2 hgC3 _ _ _ _ (by assumption) | go_keep)
        (first
          | (go_at_call 66; (with_reducible refine (minus_at hdb hda dyn dxn hsy hlen hv (by go_split_ands; exact Rs.bel (by assumption))).mono ?_); rintro e w1 ⟨ra, rc, rs, rfl, hrf, hrd, hrD, hrv, hrl, hb1⟩)
          | (go_at_call 61; (with_reducible refine (signed_any ny ra rc rs _ hrd hrD hrf.le (by omega)).mono ?_); rintro e w2 ⟨r, rfl, hrI, hb1⟩; obtain ⟨rn, rb, rl, rk, rfl⟩ := hrI.parts; obtain ⟨_, _, _, _, k0, k1, kf0, kf1, hX4⟩ := Rs.at (c := w1) (gs := [w.heap.size + 1 + 1]) (by go_split_ands; assumption) hg4 hb1))
      rename_i hS
      obtain ⟨-, -, -, -, -, -, -, -, hRf⟩ := hS
      obtain ⟨e0, e1, -⟩ := (hX4.two (.bool rn) (.slice rb rl rk)).c2
      have hI := hrI.store hX4 (.bool rn) (.slice rb rl rk)
      rw [hrv, HV.out] at hI
      go_wp2_with fail
      refine bodyPost_ret (v := .agg #[.bool rn, .slice rb rl rk]) (by simp [results, Tryd.results25, go_sem, e0, e1]) rfl ?_
      rw [← HP.out]
      exact ⟨_, rfl, hI, hRf.1⟩
    · have HV := hide (HD1.out HNE.out (by omega))
      have hlen : dy.length ≤ dx.length := by
        rcases Nat.lt_or_ge dx.length dy.length with h | h
        · have := cxn.lt_of_len cyn h; omega
        · exact h
      have hv : val BB dy ≤ val BB dx := by omega
      have ho : 0 ≤ ordZ (val BB dx) (val BB dy) := by unfold ordZ; rw [if_neg (by omega)]; split <;> omega
      generalize ordZ (val BB dx) (val BB dy) = o at ho ⊢
      clear HD1 HD2 hlt
      obtain ⟨c0, c1, d0, d1, f20, f21, f30, f31, hR⟩ := hS2
      go_upto_region 6 with (fail)
      have hR1 := hR.drew
      go_region_held3 (fun w' => w'.cell? ⟨w.heap.size, 0, none⟩ = some (.bool nx) ∧ w'.cell? ⟨w.heap.size, 1, none⟩ = some (.slice a dx.length ca) ∧ w'.cell? ⟨w.heap.size + 1, 0, none⟩ = some (.bool ny) ∧ w'.cell? ⟨w.heap.size + 1, 1, none⟩ = some (.slice b dy.length cb) ∧ w'.frozen? ⟨w.heap.size, 0, none⟩ = false ∧ w'.frozen? ⟨w.heap.size, 1, none⟩ = false ∧ w'.frozen? ⟨w.heap.size + 1, 0, none⟩ = false ∧ w'.frozen? ⟨w.heap.size + 1, 1, none⟩ = false ∧ Rs w [w.heap.size + 1 + 1] w')
        (first | with_reducible exact keep2 (by assumption) hb1 | with_reducible exact keepC2 hwC hgC2 hgC3 _ _ _ _ (by assumption) | go_keep)
        (first
          | (go_at_call 66; (with_reducible refine (minus_at hda hdb dxn dyn hsx hlen hv (by go_split_ands; exact Rs.bel (by assumption))).mono ?_); rintro e w1 ⟨ra, rc, rs, rfl, hrf, hrd, hrD, hrv, hrl, hb1⟩)
          | (go_at_call 61; (with_reducible refine (signed_any nx ra rc rs _ hrd hrD hrf.le (by omega)).mono ?_); rintro e w2 ⟨r, rfl, hrI, hb1⟩; obtain ⟨rn, rb, rl, rk, rfl⟩ := hrI.parts; obtain ⟨_, _, _, _, k0, k1, kf0, kf1, hX4⟩ := Rs.at (c := w1) (gs := [w.heap.size + 1 + 1]) (by go_split_ands; assumption) hg4 hb1))
      rename_i hS
      obtain ⟨-, -, -, -, -, -, -, -, hRf⟩ := hS
      obtain ⟨e0, e1, -⟩ := (hX4.two (.bool rn) (.slice rb rl rk)).c2
      have hI := hrI.store hX4 (.bool rn) (.slice rb rl rk)
      rw [hrv, HV.out] at hI
      go_wp2_with fail
      refine bodyPost_ret (v := .agg #[.bool rn, .slice rb rl rk]) (by simp [results, Tryd.results25, go_sem, e0, e1]) rfl ?_
      rw [← HP.out]
      exact ⟨_, rfl, hI, hRf.1⟩
end Go.Proofs.YthpibilefdmemaaDoor
