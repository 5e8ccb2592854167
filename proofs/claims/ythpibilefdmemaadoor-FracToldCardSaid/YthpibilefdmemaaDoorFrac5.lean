/- frac's Add, Floor: by their contracts. -/
import Derived.Test.YthpibilefdmemaaDoorFrac4
namespace Go.Proofs.YthpibilefdmemaaDoor
open Go.RowKit

set_option maxRecDepth 100000 in
set_option maxHeartbeats 6400000 in
theorem FAdd_any {p q : Rat} {u v : Value} (w : World) (hx : FracV w u p) (hy : FracV w v q) (hp : Qz p) (hq : Qz q) : Calls Tryd.prog 53 #[u, v] w (FracPost w (p + q)) := by
  generalize hP : FracPost w (p + q) = Post
  have HP := hide hP
  clear hP
  obtain ⟨xn, xa, xl, xk, xm, xb, xi, xj, rfl, hx1, hx2⟩ := FracV.parts hx
  obtain ⟨yn, ya, yl, yk, ym, yb, yi, yj, rfl, hy1, hy2⟩ := FracV.parts hy
  obtain ⟨sx, sd, su, sxx, sdd, sxd, sdx, syd, sad⟩ := Qz.sm hp hq
  obtain ⟨tx, td, tu, -, -, -, -, -, -⟩ := Qz.sm hq hp
  obtain ⟨W, hW⟩ : ∃ W, (((w.alloc (.cells #[.bool xn, .slice xa xl xk, .bool xm, .slice xb xi xj] 58)).alloc (.cells #[.bool yn, .slice ya yl yk, .bool ym, .slice yb yi yj] 58)).alloc (.cells #[.bool false, .slice none 0 0, .bool false, .slice none 0 0] 58)) = W := ⟨_, rfl⟩
  have bx : Blk W w.heap.size 58 #[.bool xn, .slice xa xl xk, .bool xm, .slice xb xi xj] := by rw [← hW]; exact ((Blk.new w _ _).alloc _).alloc _
  have by_ : Blk W (w.heap.size + 1) 58 #[.bool yn, .slice ya yl yk, .bool ym, .slice yb yi yj] := by rw [← hW]; exact (Blk.new_at _ _ _ (by simp)).alloc _
  have bR : Blk W (w.heap.size + 1 + 1) 58 #[.bool false, .slice none 0 0, .bool false, .slice none 0 0] := by rw [← hW]; exact Blk.new_at _ _ _ (by simp)
  have sb : Below w.heap.size w W := by rw [← hW]; exact (((Below.refl w.heap.size w).alloc (Nat.le_refl _) _).alloc (by simp) _).alloc (by simp; omega) _
  obtain ⟨cx0, cx1, cx2, cx3, -⟩ := bx.c4
  obtain ⟨cy0, cy1, cy2, cy3, -⟩ := by_.c4
  have hK : Kq w 58 (w.heap.size + 1 + 1) W := ⟨sb, by omega, _, _, _, _, _, _, _, _, bR⟩
  have HW := hide hW
  clear hW bx by_ bR
  go_enter Tryd.func53, Tryd.ntmps53
  go_upto_region 1 with (fail)
  rw [HW.out]
  clear HW
  have hS1 : W.cell? ⟨w.heap.size, 0, none⟩ = some (.bool xn) ∧ W.cell? ⟨w.heap.size, 1, none⟩ = some (.slice xa xl xk) ∧ W.cell? ⟨w.heap.size, 2, none⟩ = some (.bool xm) ∧ W.cell? ⟨w.heap.size, 3, none⟩ = some (.slice xb xi xj) ∧ W.cell? ⟨w.heap.size + 1, 0, none⟩ = some (.bool yn) ∧ W.cell? ⟨w.heap.size + 1, 1, none⟩ = some (.slice ya yl yk) ∧ W.cell? ⟨w.heap.size + 1, 2, none⟩ = some (.bool ym) ∧ W.cell? ⟨w.heap.size + 1, 3, none⟩ = some (.slice yb yi yj) ∧ Kq w 58 (w.heap.size + 1 + 1) W := ⟨cx0, cx1, cx2, cx3, cy0, cy1, cy2, cy3, hK⟩
  have hWs := hS1.2.2.2.2.2.2.2.2.bel.size
  have hWR : w.heap.size + 1 + 1 < W.heap.size := by obtain ⟨_, _, _, _, _, _, _, _, h⟩ := hK.blk; exact h.lt
  go_cut [5, 6] from 7 to 10 (fun v5 v6 wc => ∃ g5 g6 sn sa sl sk tn ta tl tk, v5 = .pointer (some ⟨g5, 0, none⟩) ∧ v6 = .pointer (some ⟨g6, 0, none⟩) ∧ w.heap.size + 1 + 1 < g5 ∧ w.heap.size + 1 + 1 < g6 ∧ Blk wc g5 24 #[.bool sn, .slice sa sl sk] ∧ Blk wc g6 24 #[.bool tn, .slice ta tl tk] ∧ IntV wc (.agg #[.bool sn, .slice sa sl sk]) (p.den : Int) ∧ IntV wc (.agg #[.bool tn, .slice ta tl tk]) (q.den : Int) ∧ wc.cell? ⟨w.heap.size, 0, none⟩ = some (.bool xn) ∧ wc.cell? ⟨w.heap.size, 1, none⟩ = some (.slice xa xl xk) ∧ wc.cell? ⟨w.heap.size, 2, none⟩ = some (.bool xm) ∧ wc.cell? ⟨w.heap.size, 3, none⟩ = some (.slice xb xi xj) ∧ wc.cell? ⟨w.heap.size + 1, 0, none⟩ = some (.bool yn) ∧ wc.cell? ⟨w.heap.size + 1, 1, none⟩ = some (.slice ya yl yk) ∧ wc.cell? ⟨w.heap.size + 1, 2, none⟩ = some (.bool ym) ∧ wc.cell? ⟨w.heap.size + 1, 3, none⟩ = some (.slice yb yi yj) ∧ Kq w 58 (w.heap.size + 1 + 1) wc)
  case first =>
    go_region_held3 (fun w' => w'.cell? ⟨w.heap.size, 0, none⟩ = some (.bool xn) ∧ w'.cell? ⟨w.heap.size, 1, none⟩ = some (.slice xa xl xk) ∧ w'.cell? ⟨w.heap.size, 2, none⟩ = some (.bool xm) ∧ w'.cell? ⟨w.heap.size, 3, none⟩ = some (.slice xb xi xj) ∧ w'.cell? ⟨w.heap.size + 1, 0, none⟩ = some (.bool yn) ∧ w'.cell? ⟨w.heap.size + 1, 1, none⟩ = some (.slice ya yl yk) ∧ w'.cell? ⟨w.heap.size + 1, 2, none⟩ = some (.bool ym) ∧ w'.cell? ⟨w.heap.size + 1, 3, none⟩ = some (.slice yb yi yj) ∧ Kq w 58 (w.heap.size + 1 + 1) w')
      (exact keepL8 hS1 (by repeat (first | with_reducible exact Below.refl _ _ | with_reducible refine bl_drew ?_ | with_reducible refine bl_alloc ?_ _ | with_reducible refine bl_set ?_ (by omega) _ _ | with_reducible refine bl_call ?_ (by with_reducible assumption))))
      (first
        | (go_at_call_of 80 (Value.agg #[.bool xn, .slice xa xl xk, .bool xm, .slice xb xi xj]); (with_reducible refine (under_at hx (by go_split_ands; exact Kq.bel (by assumption))).mono ?_); rintro e wN ⟨r, rfl, hr, hb1⟩; obtain ⟨sn, sa, sl, sk, rfl⟩ := hr.parts; have hs1 := hb1.size; (try simp only [World.size_drew] at hs1); (try simp only [World.size_alloc] at hs1); (first | with_reducible replace hA := Blk.later hb1 hA | with_reducible replace hA := Blk.later hb1 (Blk.alloc hA _) | with_reducible replace hA := Blk.later hb1 (Blk.alloc (Blk.alloc hA _) _) | skip); (first | with_reducible replace hB := Blk.later hb1 hB | with_reducible replace hB := Blk.later hb1 (Blk.alloc hB _) | with_reducible replace hB := Blk.later hb1 (Blk.alloc (Blk.alloc hB _) _) | skip); (first | (have _t := hA; first | (have hB := Blk.later hb1 (Blk.new _ _ _)) | skip) | (have hA := Blk.later hb1 (Blk.alloc (Blk.new _ _ _) _); have hB := Blk.later hb1 (Blk.new _ _ _)) | (have hA := Blk.later hb1 (Blk.drew (Blk.alloc (Blk.new _ _ _) _)); have hB := Blk.later hb1 (Blk.drew (Blk.new _ _ _))) | (have hA := Blk.later hb1 (Blk.new _ _ _)) | (have hA := Blk.later hb1 (Blk.drew (Blk.new _ _ _))) | skip); (try (try simp only [World.size_alloc] at hA); obtain ⟨khA0, khA1, khAf⟩ := hA.c2; have khA2 := khAf 0; have khA3 := khAf 1; have khAl := hA.lt; clear khAf); (try (try simp only [World.size_alloc] at hB); obtain ⟨khB0, khB1, khBf⟩ := hB.c2; have khB2 := khBf 0; have khB3 := khBf 1; have khBl := hB.lt; clear khBf))
        | (go_at_call_of 80 (Value.agg #[.bool yn, .slice ya yl yk, .bool ym, .slice yb yi yj]); (with_reducible refine (under_at hy (by go_split_ands; exact Kq.bel (by assumption))).mono ?_); rintro e wN ⟨r', rfl, hr', hb1⟩; obtain ⟨tn, ta, tl, tk, rfl⟩ := hr'.parts; have hs1 := hb1.size; (try simp only [World.size_drew] at hs1); (try simp only [World.size_alloc] at hs1); (first | with_reducible replace hA := Blk.later hb1 hA | with_reducible replace hA := Blk.later hb1 (Blk.alloc hA _) | with_reducible replace hA := Blk.later hb1 (Blk.alloc (Blk.alloc hA _) _) | skip); (first | with_reducible replace hB := Blk.later hb1 hB | with_reducible replace hB := Blk.later hb1 (Blk.alloc hB _) | with_reducible replace hB := Blk.later hb1 (Blk.alloc (Blk.alloc hB _) _) | skip); (first | (have _t := hA; first | (have hB := Blk.later hb1 (Blk.new _ _ _)) | skip) | (have hA := Blk.later hb1 (Blk.alloc (Blk.new _ _ _) _); have hB := Blk.later hb1 (Blk.new _ _ _)) | (have hA := Blk.later hb1 (Blk.drew (Blk.alloc (Blk.new _ _ _) _)); have hB := Blk.later hb1 (Blk.drew (Blk.new _ _ _))) | (have hA := Blk.later hb1 (Blk.new _ _ _)) | (have hA := Blk.later hb1 (Blk.drew (Blk.new _ _ _))) | skip); (try (try simp only [World.size_alloc] at hA); obtain ⟨khA0, khA1, khAf⟩ := hA.c2; have khA2 := khAf 0; have khA3 := khAf 1; have khAl := hA.lt; clear khAf); (try (try simp only [World.size_alloc] at hB); obtain ⟨khB0, khB1, khBf⟩ := hB.c2; have khB2 := khBf 0; have khB3 := khBf 1; have khBl := hB.lt; clear khBf)))
    all_goals
      go_wp2_with fail
      go_meet
      refine ⟨_, _, sn, sa, sl, sk, tn, ta, tl, tk, rfl, rfl, ?r6, ?r7, ?r1, ?r2, ?r3, ?r4, ?r5⟩
      case r6 => omega
      case r7 => omega
      case r1 => repeat (first | with_reducible refine Blk.later (by with_reducible assumption) ?_ | with_reducible refine Blk.drew ?_ | with_reducible exact Blk.new _ _ _ | with_reducible exact Blk.new_at _ _ _ (World.size_alloc _ _).symm | with_reducible exact Blk.new_at _ _ _ ((World.size_setCell _ _ _).trans (World.size_setCell _ _ _)).symm | with_reducible refine Blk.alloc ?_ _ | with_reducible refine Blk.two (a := .bool false) (b := .slice none 0 0) ?_ _ _ | with_reducible refine Blk.far ?_ (by simp only [ne_eq]; omega) _)
      case r2 => repeat (first | with_reducible refine Blk.later (by with_reducible assumption) ?_ | with_reducible refine Blk.drew ?_ | with_reducible exact Blk.new _ _ _ | with_reducible exact Blk.new_at _ _ _ (World.size_alloc _ _).symm | with_reducible exact Blk.new_at _ _ _ ((World.size_setCell _ _ _).trans (World.size_setCell _ _ _)).symm | with_reducible refine Blk.alloc ?_ _ | with_reducible refine Blk.two (a := .bool false) (b := .slice none 0 0) ?_ _ _ | with_reducible refine Blk.far ?_ (by simp only [ne_eq]; omega) _)
      case r3 => ((repeat (first | with_reducible assumption | with_reducible refine IntV.drewd ?_ | with_reducible refine IntV.allocd ?_ _ | with_reducible refine IntV.store ?_ (n := false) (b := none) (l := 0) (m := 0) ?_ _ _ | with_reducible refine IntV.later (by with_reducible assumption) ?_)); all_goals repeat (first | with_reducible refine Blk.later (by with_reducible assumption) ?_ | with_reducible refine Blk.drew ?_ | with_reducible exact Blk.new _ _ _ | with_reducible exact Blk.new_at _ _ _ (World.size_alloc _ _).symm | with_reducible exact Blk.new_at _ _ _ ((World.size_setCell _ _ _).trans (World.size_setCell _ _ _)).symm | with_reducible refine Blk.alloc ?_ _ | with_reducible refine Blk.two (a := .bool false) (b := .slice none 0 0) ?_ _ _ | with_reducible refine Blk.far ?_ (by simp only [ne_eq]; omega) _))
      case r4 => ((repeat (first | with_reducible assumption | with_reducible refine IntV.drewd ?_ | with_reducible refine IntV.allocd ?_ _ | with_reducible refine IntV.store ?_ (n := false) (b := none) (l := 0) (m := 0) ?_ _ _ | with_reducible refine IntV.later (by with_reducible assumption) ?_)); all_goals repeat (first | with_reducible refine Blk.later (by with_reducible assumption) ?_ | with_reducible refine Blk.drew ?_ | with_reducible exact Blk.new _ _ _ | with_reducible exact Blk.new_at _ _ _ (World.size_alloc _ _).symm | with_reducible exact Blk.new_at _ _ _ ((World.size_setCell _ _ _).trans (World.size_setCell _ _ _)).symm | with_reducible refine Blk.alloc ?_ _ | with_reducible refine Blk.two (a := .bool false) (b := .slice none 0 0) ?_ _ _ | with_reducible refine Blk.far ?_ (by simp only [ne_eq]; omega) _))
      case r5 => exact keepL8 hS1 (by repeat (first | with_reducible exact Below.refl _ _ | with_reducible refine bl_drew ?_ | with_reducible refine bl_alloc ?_ _ | with_reducible refine bl_set ?_ (by omega) _ _ | with_reducible refine bl_call ?_ (by with_reducible assumption)))
  case rest =>
    obtain ⟨g5, g6, sn, sa, sl, sk, tn, ta, tl, tk, rfl, rfl, -, -, hBa, hBb, ha, hb, hS⟩ := hcut
    clear hS1 cx0 cx1 cx2 cx3 cy0 cy1 cy2 cy3 hK hWs hWR sb hx hy
    rename_i wc
    obtain ⟨cx0, cx1, cx2, cx3, cy0, cy1, cy2, cy3, hK⟩ := hS
    obtain ⟨s0, s1, -⟩ := hBa.c2
    obtain ⟨t0, t1, -⟩ := hBb.c2
    have n5 : g5 ≠ w.heap.size + 1 + 1 := by obtain ⟨_, _, _, _, _, _, _, _, h⟩ := hK.blk; exact hBa.ne_ h (by decide)
    have n6 : g6 ≠ w.heap.size + 1 + 1 := by obtain ⟨_, _, _, _, _, _, _, _, h⟩ := hK.blk; exact hBb.ne_ h (by decide)
    have hK1 := hK.drew
    have hx2w := hx1.below hK.bel (Nat.le_refl _)
    have hy2w := hy1.below hK.bel (Nat.le_refl _)
    have dx : w.heap.size ≠ w.heap.size + 1 + 1 := by omega
    have dy : w.heap.size + 1 ≠ w.heap.size + 1 + 1 := by omega
    go_upto_region 2 with (fail)
    replace ha := ha.drewd
    replace hb := hb.drewd
    go_region_held3 (fun w' => w'.cell? ⟨w.heap.size, 0, none⟩ = some (.bool xn) ∧ w'.cell? ⟨w.heap.size, 1, none⟩ = some (.slice xa xl xk) ∧ w'.cell? ⟨w.heap.size, 2, none⟩ = some (.bool xm) ∧ w'.cell? ⟨w.heap.size, 3, none⟩ = some (.slice xb xi xj) ∧ w'.cell? ⟨w.heap.size + 1, 0, none⟩ = some (.bool yn) ∧ w'.cell? ⟨w.heap.size + 1, 1, none⟩ = some (.slice ya yl yk) ∧ w'.cell? ⟨w.heap.size + 1, 2, none⟩ = some (.bool ym) ∧ w'.cell? ⟨w.heap.size + 1, 3, none⟩ = some (.slice yb yi yj) ∧ w'.cell? ⟨g5, 0, none⟩ = some (.bool sn) ∧ w'.cell? ⟨g5, 1, none⟩ = some (.slice sa sl sk) ∧ w'.cell? ⟨g6, 0, none⟩ = some (.bool tn) ∧ w'.cell? ⟨g6, 1, none⟩ = some (.slice ta tl tk) ∧ Kq w 58 (w.heap.size + 1 + 1) w')
      (first | with_reducible exact keepL12 (by assumption) hb1 | with_reducible exact keepQ12 dx dx dx dx dy dy dy dy n5 n5 n6 n6 _ _ _ _ (isB_of _) (isS_of _ _ _) (isB_of _) (isS_of _ _ _) (by assumption) | go_keep)
      (first
        | (go_at_call_of 27 (Value.agg #[.bool xn, .slice xa xl xk]); (with_reducible refine (Mul_any _ (hx1.below (by go_split_ands; exact Kq.bel (by assumption)) (Nat.le_refl _)) hb sx td).mono ?_); rintro e wN ⟨rA, rfl, hA, hb1⟩; replace ha := ha.below hb1 (Nat.le_refl _); replace hb := hb.below hb1 (Nat.le_refl _))
        | (go_at_call_of 27 (Value.agg #[.bool yn, .slice ya yl yk]); (with_reducible refine (Mul_any _ (hy1.below (by go_split_ands; exact Kq.bel (by assumption)) (Nat.le_refl _)) ha tx sd).mono ?_); rintro e wN ⟨rB, rfl, hB, hb1⟩; replace ha := ha.below hb1 (Nat.le_refl _); replace hb := hb.below hb1 (Nat.le_refl _); replace hA := hA.below hb1 (Nat.le_refl _))
        | (go_at_call_of 25 rB; (with_reducible refine (Add_any _ hA hB sxd syd).mono ?_); rintro e wN ⟨rC, rfl, hC, hb1⟩; replace ha := ha.below hb1 (Nat.le_refl _); replace hb := hb.below hb1 (Nat.le_refl _))
        | (go_at_call_of 27 (Value.agg #[.bool sn, .slice sa sl sk]); (with_reducible refine (Mul_any _ ha hb sd td).mono ?_); rintro e wN ⟨rD, rfl, hD, hb1⟩; replace hC := hC.below hb1 (Nat.le_refl _))
        | (go_at_call_of 41 rD; (with_reducible refine (FMake_any _ hC hD sad sdd).mono ?_); rintro e wN ⟨rE, rfl, hE, hb1⟩; rw [add_div] at hE; obtain ⟨rn, ra, rl, rk, rm, rb, ri, rj, rfl, -, -⟩ := FracV.parts hE; obtain ⟨_, _, _, _, _, _, _, _, k0, k1, k2, k3, kf0, kf1, kf2, kf3, hX4⟩ := Kq.at (t := 58) (g := w.heap.size + 1 + 1) (w := w) (by go_split_ands; assumption) hb1))
    rename_i hS
    have hKf := hS.2.2.2.2.2.2.2.2.2.2.2.2
    have hI := FrV.st4 hE hX4 (.bool rn) (.slice ra rl rk) (.bool rm) (.slice rb ri rj)
    obtain ⟨e0, e1, e2, e3, -⟩ := (hX4.four (.bool rn) (.slice ra rl rk) (.bool rm) (.slice rb ri rj)).c4
    go_wp2_with fail
    refine bodyPost_ret (v := Value.agg #[.bool rn, .slice ra rl rk, .bool rm, .slice rb ri rj]) (by simp [results, Tryd.results53, go_sem, e0, e1, e2, e3]) rfl ?_
    rw [← HP.out]
    exact ⟨_, rfl, hI, hKf.1⟩

end Go.Proofs.YthpibilefdmemaaDoor
