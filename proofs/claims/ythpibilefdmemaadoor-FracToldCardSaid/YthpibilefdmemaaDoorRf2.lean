/- collatorref02's Of, Form: by their contracts. -/
import Derived.Test.YthpibilefdmemaaDoorRf1
namespace Go.Proofs.YthpibilefdmemaaDoor
open Go.RowKit

set_option maxRecDepth 100000 in
set_option maxHeartbeats 6400000 in
theorem ROf2_any {a b : Int} {u : Value} (w : World) (hx : FrV w u a b) (hn : len a ≤ 1000000000) (hm : len b ≤ 1000000000) : Calls Tryd.prog 50 #[u] w (RFrPost w a (ben b)) := by
  generalize hP : RFrPost w a (ben b) = Post
  have HP := hide hP
  clear hP
  obtain ⟨xn, xa, xl, xk, xm, xb, xi, xj, rfl, hx1, hx2⟩ := FrV.parts hx
  obtain ⟨W, hW⟩ : ∃ W, ((w.alloc (.cells #[.bool xn, .slice xa xl xk, .bool xm, .slice xb xi xj] 58)).alloc (.cells #[.bool false, .slice none 0 0, .bool false, .slice none 0 0] 64)) = W := ⟨_, rfl⟩
  have bx : Blk W w.heap.size 58 #[.bool xn, .slice xa xl xk, .bool xm, .slice xb xi xj] := by rw [← hW]; exact (Blk.new w _ _).alloc _
  have bR : Blk W (w.heap.size + 1) 64 #[.bool false, .slice none 0 0, .bool false, .slice none 0 0] := by rw [← hW]; exact Blk.new_at _ _ _ (by simp)
  have sb : Below w.heap.size w W := by rw [← hW]; exact ((Below.refl w.heap.size w).alloc (Nat.le_refl _) _).alloc (by simp) _
  obtain ⟨cx0, cx1, cx2, cx3, -⟩ := bx.c4
  have hK : Kq w 64 (w.heap.size + 1) W := ⟨sb, by omega, _, _, _, _, _, _, _, _, bR⟩
  have HW := hide hW
  clear hW bx bR
  go_enter Tryd.func50, Tryd.ntmps50
  go_upto_region 1 with (fail)
  rw [HW.out]
  clear HW
  have hS1 : W.cell? ⟨w.heap.size, 0, none⟩ = some (.bool xn) ∧ W.cell? ⟨w.heap.size, 1, none⟩ = some (.slice xa xl xk) ∧ W.cell? ⟨w.heap.size, 2, none⟩ = some (.bool xm) ∧ W.cell? ⟨w.heap.size, 3, none⟩ = some (.slice xb xi xj) ∧ Kq w 64 (w.heap.size + 1) W := ⟨cx0, cx1, cx2, cx3, hK⟩
  have hWs := hS1.2.2.2.2.bel.size
  have hWR : w.heap.size + 1 < W.heap.size := by obtain ⟨_, _, _, _, _, _, _, _, h⟩ := hK.blk; exact h.lt
  go_cut [3] from 4 to 10 (fun v3 wc => ∃ g3 sn sa sl sk sm sb_ si sj, v3 = .pointer (some ⟨g3, 0, none⟩) ∧ w.heap.size + 1 < g3 ∧ Blk wc g3 64 #[.bool sn, .slice sa sl sk, .bool sm, .slice sb_ si sj] ∧ NumV wc (.agg #[.bool sn, .slice sa sl sk]) a ∧ NumV wc (.agg #[.bool sm, .slice sb_ si sj]) b ∧ wc.cell? ⟨w.heap.size, 0, none⟩ = some (.bool xn) ∧ wc.cell? ⟨w.heap.size, 1, none⟩ = some (.slice xa xl xk) ∧ wc.cell? ⟨w.heap.size, 2, none⟩ = some (.bool xm) ∧ wc.cell? ⟨w.heap.size, 3, none⟩ = some (.slice xb xi xj) ∧ Kq w 64 (w.heap.size + 1) wc)
  case first =>
    go_region_held3 (fun w' => w'.cell? ⟨w.heap.size, 0, none⟩ = some (.bool xn) ∧ w'.cell? ⟨w.heap.size, 1, none⟩ = some (.slice xa xl xk) ∧ w'.cell? ⟨w.heap.size, 2, none⟩ = some (.bool xm) ∧ w'.cell? ⟨w.heap.size, 3, none⟩ = some (.slice xb xi xj) ∧ Kq w 64 (w.heap.size + 1) w')
      (exact keepL4 hS1 (by repeat (first | with_reducible exact Below.refl _ _ | with_reducible refine bl_drew ?_ | with_reducible refine bl_alloc ?_ _ | with_reducible refine bl_set ?_ (by omega) _ _ | with_reducible refine bl_call ?_ (by with_reducible assumption))))
      (first
        | (go_at_call_of 22 (Value.agg #[.bool xn, .slice xa xl xk]); (with_reducible refine (ROf_any _ (hx1.below (by go_split_ands; exact Kq.bel (by assumption)) (Nat.le_refl _)) hn).mono ?_); rintro e wN ⟨r, rfl, hr, hb1⟩; obtain ⟨sn, sa, sl, sk, rfl⟩ := hr.parts; have hs1 := hb1.size; (try simp only [World.size_drew] at hs1); (try simp only [World.size_alloc] at hs1); (first | with_reducible replace hA := Blk.later hb1 hA | with_reducible replace hA := Blk.later hb1 (Blk.drew hA) | skip); (first | (have _t := hA) | (have hA := Blk.later hb1 (Blk.new _ _ _)) | (have hA := Blk.later hb1 (Blk.drew (Blk.new _ _ _))) | skip); (try (try simp only [World.size_alloc] at hA); obtain ⟨kA0, kA1, kA2, kA3, kAf⟩ := hA.c4; have kA4 := kAf 0; have kA5 := kAf 1; have kA6 := kAf 2; have kA7 := kAf 3; have kAl := hA.lt; clear kAf))
        | (go_at_call_of 22 (Value.agg #[.bool xm, .slice xb xi xj]); (with_reducible refine (ROf_any _ (hx2.below (by go_split_ands; exact Kq.bel (by assumption)) (Nat.le_refl _)) hm).mono ?_); rintro e wN ⟨r', rfl, hr', hb1⟩; obtain ⟨tn, ta, tl, tk, rfl⟩ := hr'.parts; have hs1 := hb1.size; (try simp only [World.size_drew] at hs1); (try simp only [World.size_alloc] at hs1); (first | with_reducible replace hA := Blk.later hb1 hA | with_reducible replace hA := Blk.later hb1 (Blk.drew hA) | skip); (first | (have _t := hA) | (have hA := Blk.later hb1 (Blk.new _ _ _)) | (have hA := Blk.later hb1 (Blk.drew (Blk.new _ _ _))) | skip); (try (try simp only [World.size_alloc] at hA); obtain ⟨kA0, kA1, kA2, kA3, kAf⟩ := hA.c4; have kA4 := kAf 0; have kA5 := kAf 1; have kA6 := kAf 2; have kA7 := kAf 3; have kAl := hA.lt; clear kAf)))
    all_goals
      go_wp2_with fail
      go_meet
      refine ⟨_, sn, sa, sl, sk, tn, ta, tl, tk, rfl, ?r6, ?r1, ?r2, ?r3, ?r5⟩
      case r6 => omega
      case r1 => repeat (first | with_reducible refine Blk.later (by with_reducible assumption) ?_ | with_reducible refine Blk.drew ?_ | with_reducible exact Blk.new _ _ _ | with_reducible exact Blk.new_at _ _ _ (World.size_alloc _ _).symm | with_reducible refine Blk.alloc ?_ _ | with_reducible refine Blk.four (p := .bool false) (q := .slice none 0 0) (r := .bool false) (s := .slice none 0 0) ?_ _ _ _ _ | with_reducible refine Blk.far ?_ (by simp only [ne_eq]; omega) _)
      case r2 => ((repeat (first | with_reducible assumption | with_reducible refine NumV.drewd ?_ | with_reducible refine NumV.allocd ?_ _ | with_reducible refine NumV.st4 ?_ (t := 64) (n := false) (a := none) (l := 0) (k := 0) (n' := false) (a' := none) (l' := 0) (k' := 0) ?_ _ _ _ _ | with_reducible refine NumV.later (by with_reducible assumption) ?_)); all_goals repeat (first | with_reducible refine Blk.later (by with_reducible assumption) ?_ | with_reducible refine Blk.drew ?_ | with_reducible exact Blk.new _ _ _ | with_reducible exact Blk.new_at _ _ _ (World.size_alloc _ _).symm | with_reducible refine Blk.alloc ?_ _ | with_reducible refine Blk.four (p := .bool false) (q := .slice none 0 0) (r := .bool false) (s := .slice none 0 0) ?_ _ _ _ _ | with_reducible refine Blk.far ?_ (by simp only [ne_eq]; omega) _))
      case r3 => ((repeat (first | with_reducible assumption | with_reducible refine NumV.drewd ?_ | with_reducible refine NumV.allocd ?_ _ | with_reducible refine NumV.st4 ?_ (t := 64) (n := false) (a := none) (l := 0) (k := 0) (n' := false) (a' := none) (l' := 0) (k' := 0) ?_ _ _ _ _ | with_reducible refine NumV.later (by with_reducible assumption) ?_)); all_goals repeat (first | with_reducible refine Blk.later (by with_reducible assumption) ?_ | with_reducible refine Blk.drew ?_ | with_reducible exact Blk.new _ _ _ | with_reducible exact Blk.new_at _ _ _ (World.size_alloc _ _).symm | with_reducible refine Blk.alloc ?_ _ | with_reducible refine Blk.four (p := .bool false) (q := .slice none 0 0) (r := .bool false) (s := .slice none 0 0) ?_ _ _ _ _ | with_reducible refine Blk.far ?_ (by simp only [ne_eq]; omega) _))
      case r5 => exact keepL4 hS1 (by repeat (first | with_reducible exact Below.refl _ _ | with_reducible refine bl_drew ?_ | with_reducible refine bl_alloc ?_ _ | with_reducible refine bl_set ?_ (by omega) _ _ | with_reducible refine bl_call ?_ (by with_reducible assumption)))
  case rest =>
    obtain ⟨g3, sn, sa, sl, sk, sm, sd, si, sj, rfl, hg3, hBa, ha, hb, hS⟩ := hcut
    clear hS1 cx0 cx1 cx2 cx3 hK hWs hWR sb hx hx1 hx2
    rename_i wc
    have hK := hS.2.2.2.2
    clear hS
    have hle := hK.le
    obtain ⟨_, _, _, _, _, _, _, _, bR⟩ := hK.blk
    have sb := hK.bel
    obtain ⟨s0, s1, s2, s3, sf⟩ := hBa.c4
    have sf2 := sf 2
    have sf3 := sf 3
    have hsl := hb.sign.2
    have n1 : w.heap.size + 1 ≠ g3 := by omega
    by_cases h0 : b = 0
    · have hi0 : si = 0 := by rw [hsl, h0]; rfl
      subst hi0
      have HB : Hid (ben b = 1) := hide (by rw [ben, if_pos h0])
      clear hsl h0 hb
      go_wp2_with fail
      refine (RInt_any 1 wc (by decide) (by decide)).mono ?_
      rintro e w1 ⟨r, rfl, hr, hb1⟩
      obtain ⟨tn, ta, tl, tk, rfl⟩ := hr.parts
      clear s0 s1 s2 s3 sf sf2 sf3 hK
      replace hBa := hBa.below hb1 hBa.lt
      replace bR := bR.below hb1 bR.lt
      replace ha := ha.below hb1 (Nat.le_refl _)
      replace sb := sb.trans (hb1.mono sb.size)
      obtain ⟨s0, s1, s2, s3, sf⟩ := hBa.c4
      have sf2 := sf 2
      have sf3 := sf 3
      have hBa2 := hBa.back (.bool tn) (.slice ta tl tk)
      have bR2 := (bR.far (p := ⟨g3, 2, none⟩) n1 (.bool tn)).far (p := ⟨g3, 3, none⟩) n1 (.slice ta tl tk)
      have ha2 := ha.stb hBa (.bool tn) (.slice ta tl tk)
      have hr2 := hr.stb hBa (.bool tn) (.slice ta tl tk)
      have sb2 := set2b (g := g3) sb (by omega) 2 3 (.bool tn) (.slice ta tl tk)
      go_upto_region 4 with (fail)
      generalize (w1.setCell ⟨g3, 2, none⟩ (.bool tn)).setCell ⟨g3, 3, none⟩ (.slice ta tl tk) = w2 at hBa2 bR2 ha2 hr2 sb2 ⊢
      clear s0 s1 s2 s3 sf sf2 sf3
      obtain ⟨r0, r1, r2, r3, rf⟩ := bR2.c4
      have rf0 := rf 0
      have rf1 := rf 1
      have rf2 := rf 2
      have rf3 := rf 3
      obtain ⟨s0, s1, s2, s3, -⟩ := hBa2.c4
      have hI := (RFrV.mk ha2 hr2).st4 bR2 (.bool sn) (.slice sa sl sk) (.bool tn) (.slice ta tl tk)
      obtain ⟨e4, e5, e6, e7, -⟩ := (bR2.four (.bool sn) (.slice sa sl sk) (.bool tn) (.slice ta tl tk)).c4
      go_wp2_with fail
      refine bodyPost_ret (v := .agg #[.bool sn, .slice sa sl sk, .bool tn, .slice ta tl tk]) (by simp [results, Tryd.results50, go_sem, e4, e5, e6, e7]) rfl ?_
      rw [← HP.out, HB.out]
      exact ⟨_, rfl, hI, set4b sb2 (by omega) _ _ _ _⟩
    · have hi0 : si ≠ 0 := by rw [hsl]; intro e; exact h0 (dlen_eq_zero.1 e)
      have e0 : ((si : Int) == 0) = false := beq_eq_false_iff_ne.2 (by omega)
      have e1 : decide (si = 0) = false := decide_eq_false hi0
      have HB : Hid (ben b = b) := hide (by rw [ben, if_neg h0])
      clear hsl h0 hi0 sf2 sf3 sf
      go_upto_region 4 with (fail)
      clear s0 s1 s2 s3
      obtain ⟨r0, r1, r2, r3, rf⟩ := bR.c4
      have rf0 := rf 0
      have rf1 := rf 1
      have rf2 := rf 2
      have rf3 := rf 3
      obtain ⟨s0, s1, s2, s3, -⟩ := hBa.c4
      have hI := (RFrV.mk ha hb).st4 bR (.bool sn) (.slice sa sl sk) (.bool sm) (.slice sd si sj)
      obtain ⟨e4, e5, e6, e7, -⟩ := (bR.four (.bool sn) (.slice sa sl sk) (.bool sm) (.slice sd si sj)).c4
      go_wp2_with fail
      refine bodyPost_ret (v := .agg #[.bool sn, .slice sa sl sk, .bool sm, .slice sd si sj]) (by simp [results, Tryd.results50, go_sem, e4, e5, e6, e7]) rfl ?_
      rw [← HP.out, HB.out]
      exact ⟨_, rfl, hI, set4b sb (by omega) _ _ _ _⟩

set_option maxRecDepth 100000 in
set_option maxHeartbeats 6400000 in
theorem RForm2_any {q : Rat} {u : Value} (w : World) (hx : RFracV w u q) (hn : dlen q.num ≤ 100000000000) (hm : dlen (q.den : Int) ≤ 100000000000) : Calls Tryd.prog 42 #[u] w (FracPost w q) := by
  generalize hP : FracPost w q = Post
  have HP := hide hP
  clear hP
  obtain ⟨xn, xa, xl, xk, xm, xb, xi, xj, rfl, hx1, hx2⟩ := RFrV.parts hx
  obtain ⟨W, hW⟩ : ∃ W, ((w.alloc (.cells #[.bool xn, .slice xa xl xk, .bool xm, .slice xb xi xj] 64)).alloc (.cells #[.bool false, .slice none 0 0, .bool false, .slice none 0 0] 58)) = W := ⟨_, rfl⟩
  have bx : Blk W w.heap.size 64 #[.bool xn, .slice xa xl xk, .bool xm, .slice xb xi xj] := by rw [← hW]; exact (Blk.new w _ _).alloc _
  have bR : Blk W (w.heap.size + 1) 58 #[.bool false, .slice none 0 0, .bool false, .slice none 0 0] := by rw [← hW]; exact Blk.new_at _ _ _ (by simp)
  have sb : Below w.heap.size w W := by rw [← hW]; exact ((Below.refl w.heap.size w).alloc (Nat.le_refl _) _).alloc (by simp) _
  obtain ⟨cx0, cx1, cx2, cx3, -⟩ := bx.c4
  have hK : Kq w 58 (w.heap.size + 1) W := ⟨sb, by omega, _, _, _, _, _, _, _, _, bR⟩
  have HW := hide hW
  clear hW
  go_enter Tryd.func42, Tryd.ntmps42
  go_upto_region 1 with (fail)
  rw [HW.out]
  clear HW
  clear hK cx0 cx1 cx2 cx3
  replace hx1 := hx1.below sb (Nat.le_refl _)
  replace hx2 := hx2.below sb (Nat.le_refl _)
  clear hx
  obtain ⟨x0, x1, x2, x3, -⟩ := bx.c4
  go_wp2_with fail
  refine (Form_any W hx1 hn).mono ?_
  rintro e w1 ⟨r, rfl, hr, hb1⟩
  obtain ⟨rn, ra, rl, rk, rfl⟩ := hr.parts
  clear x0 x1 x2 x3
  replace bx := bx.below hb1 bx.lt
  replace bR := bR.below hb1 bR.lt
  replace hx1 := hx1.below hb1 (Nat.le_refl _)
  replace hx2 := hx2.below hb1 (Nat.le_refl _)
  replace sb := sb.trans (hb1.mono sb.size)
  clear hb1
  have hGL := bR.lt
  obtain ⟨w3, hw3⟩ : ∃ w3, w1.alloc (.cells #[.bool rn, .slice ra rl rk, .bool false, .slice none 0 0] 58) = w3 := ⟨_, rfl⟩
  have bg : Blk w3 w1.heap.size 58 #[.bool rn, .slice ra rl rk, .bool false, .slice none 0 0] := by rw [← hw3]; exact Blk.new _ _ _
  have hb3 : Below w1.heap.size w1 w3 := by rw [← hw3]; exact (Below.refl _ _).alloc (Nat.le_refl _) _
  replace hr := hr.below hb3 (Nat.le_refl _)
  replace bx := bx.below hb3 bx.lt
  replace bR := bR.below hb3 bR.lt
  replace hx1 := hx1.below hb3 (Nat.le_refl _)
  replace hx2 := hx2.below hb3 (Nat.le_refl _)
  replace sb := sb.trans (hb3.mono sb.size)
  clear hb3
  have HW := hide hw3
  clear hw3
  go_upto_region 2 with (fail)
  rw [HW.out]
  clear HW
  generalize hGG : w1.heap.size = G at bg hGL ⊢
  clear hGG
  obtain ⟨x0, x1, x2, x3, -⟩ := bx.c4
  obtain ⟨C, hC⟩ : ∃ C, ordZ (q.den : Int) 1 = C := ⟨_, rfl⟩
  have HC0 : Hid ((C == 0) = decide (q.den = 1)) := hide (by rw [← hC]; unfold ordZ; by_cases h : q.den = 1 <;> simp [h]; omega)
  have HC := hide hC
  clear hC
  have d1 : Dm 1 := dm_len (show len 1 ≤ 1000000000 from Nat.le_trans (dg_len BB2 (show (1 : Nat) < BB ^ 1 by decide)) (by decide))
  have hsb := sb.drew
  have dm : Dm (q.den : Int) := hm
  go_cut [12] from 8 to 11 (fun v12 wc => v12 = .bool (C != 0) ∧ (wc.cell? ⟨w.heap.size, 0, none⟩ = some (.bool xn) ∧ wc.cell? ⟨w.heap.size, 1, none⟩ = some (.slice xa xl xk) ∧ wc.cell? ⟨w.heap.size, 2, none⟩ = some (.bool xm) ∧ wc.cell? ⟨w.heap.size, 3, none⟩ = some (.slice xb xi xj) ∧ Below w3.heap.size w3 wc))
  case first =>
    have hS1 := (Below.refl w3.heap.size w3).drew
    go_region_held3 (fun w' => w'.cell? ⟨w.heap.size, 0, none⟩ = some (.bool xn) ∧ w'.cell? ⟨w.heap.size, 1, none⟩ = some (.slice xa xl xk) ∧ w'.cell? ⟨w.heap.size, 2, none⟩ = some (.bool xm) ∧ w'.cell? ⟨w.heap.size, 3, none⟩ = some (.slice xb xi xj) ∧ Below w3.heap.size w3 w')
      (first | with_reducible exact keepZ4 (by assumption) hb1 | go_keep)
      (first
        | (go_at_call_of 19 (Value.int .i64 1); (with_reducible refine (RInt_any 1 _ (by decide) (by decide)).mono ?_); rintro e wN ⟨rA, rfl, hA, hb1⟩)
        | (go_at_call_of 34 rA; (with_reducible refine (RCmp_at (hx2.below (by go_split_ands; assumption) (Nat.le_refl _)) hA dm d1 (Below.refl _ _) HC.out).mono ?_); rintro e wN ⟨rfl, hb1⟩))
    rename_i hS
    go_wp2_with fail
    go_meet
    exact ⟨rfl, hS⟩
  case rest =>
    rename_i wc
    obtain ⟨rfl, -, -, -, -, hb4⟩ := hcut
    clear x0 x1 x2 x3 hsb
    replace bx := bx.below hb4 bx.lt
    replace bR := bR.below hb4 bR.lt
    replace bg := bg.below hb4 bg.lt
    replace hx1 := hx1.below hb4 (Nat.le_refl _)
    replace hx2 := hx2.below hb4 (Nat.le_refl _)
    replace hr := hr.below hb4 (Nat.le_refl _)
    replace sb := sb.trans (hb4.mono sb.size)
    clear hb4
    obtain ⟨x0, x1, x2, x3, -⟩ := bx.c4
    obtain ⟨g0, g1, g2, g3, gf⟩ := bg.c4
    have gf2 := gf 2
    have gf3 := gf 3
    have n1 : w.heap.size + 1 ≠ G := by omega
    by_cases h1 : q.den = 1
    · have e0 : (C == 0) = true := by rw [HC0.out, decide_eq_true h1]
      have e1 : (C != 0) = false := by simp only [bne, e0, Bool.not_true]
      have HU : Hid (und q = 0) := hide (by unfold und; rw [if_pos h1])
      clear e0 h1 x0 x1 x2 x3 gf gf2 gf3
      rw [e1]
      clear e1
      go_upto_region 4 with (fail)
      obtain ⟨r0, r1, r2, r3, rf⟩ := bR.c4
      have rf0 := rf 0
      have rf1 := rf 1
      have rf2 := rf 2
      have rf3 := rf 3
      have hI := (FrV.mk hr (IntV.zero wc)).st4 bR (.bool rn) (.slice ra rl rk) (.bool false) (.slice none 0 0)
      obtain ⟨e4, e5, e6, e7, -⟩ := (bR.four (.bool rn) (.slice ra rl rk) (.bool false) (.slice none 0 0)).c4
      go_wp2_with fail
      refine bodyPost_ret (v := .agg #[.bool rn, .slice ra rl rk, .bool false, .slice none 0 0]) (by simp [results, Tryd.results42, go_sem, e4, e5, e6, e7]) rfl ?_
      rw [← HP.out]
      exact ⟨_, rfl, by unfold FracV; rw [HU.out]; exact hI, set4b sb (by omega) _ _ _ _⟩
    · have e0 : (C == 0) = false := by rw [HC0.out, decide_eq_false h1]
      have e1 : (C != 0) = true := by simp only [bne, e0, Bool.not_false]
      have HU : Hid (und q = (q.den : Int)) := hide (by unfold und; rw [if_neg h1])
      clear e0 h1
      rw [e1]
      clear e1
      go_wp2_with fail
      refine (Form_any _ hx2 hm).mono ?_
      rintro e w5 ⟨s, rfl, hs, hb5⟩
      obtain ⟨tn, ta, tl, tk, rfl⟩ := hs.parts
      clear x0 x1 x2 x3 g0 g1 g2 g3 gf gf2 gf3
      replace bx := bx.below hb5 bx.lt
      replace bR := bR.below hb5 bR.lt
      replace bg := bg.below hb5 bg.lt
      replace hx1 := hx1.below hb5 (Nat.le_refl _)
      replace hx2 := hx2.below hb5 (Nat.le_refl _)
      replace hr := hr.below hb5 (Nat.le_refl _)
      replace sb := sb.trans (hb5.mono sb.size)
      clear hb5
      obtain ⟨g0, g1, g2, g3, gf⟩ := bg.c4
      have gf2 := gf 2
      have gf3 := gf 3
      have bg2 := bg.back (.bool tn) (.slice ta tl tk)
      have bR2 := (bR.far (p := ⟨G, 2, none⟩) n1 (.bool tn)).far (p := ⟨G, 3, none⟩) n1 (.slice ta tl tk)
      have hr2 := hr.stb bg (.bool tn) (.slice ta tl tk)
      have hs2 := hs.stb bg (.bool tn) (.slice ta tl tk)
      have sb2 := set2b (g := G) sb (by omega) 2 3 (.bool tn) (.slice ta tl tk)
      go_upto_region 4 with (fail)
      generalize (w5.setCell ⟨G, 2, none⟩ (.bool tn)).setCell ⟨G, 3, none⟩ (.slice ta tl tk) = w6 at bg2 bR2 hr2 hs2 sb2 ⊢
      clear g0 g1 g2 g3 gf gf2 gf3
      obtain ⟨g0, g1, g2, g3, -⟩ := bg2.c4
      obtain ⟨r0, r1, r2, r3, rf⟩ := bR2.c4
      have rf0 := rf 0
      have rf1 := rf 1
      have rf2 := rf 2
      have rf3 := rf 3
      have hI := (FrV.mk hr2 hs2).st4 bR2 (.bool rn) (.slice ra rl rk) (.bool tn) (.slice ta tl tk)
      obtain ⟨e4, e5, e6, e7, -⟩ := (bR2.four (.bool rn) (.slice ra rl rk) (.bool tn) (.slice ta tl tk)).c4
      go_wp2_with fail
      refine bodyPost_ret (v := .agg #[.bool rn, .slice ra rl rk, .bool tn, .slice ta tl tk]) (by simp [results, Tryd.results42, go_sem, e4, e5, e6, e7]) rfl ?_
      rw [← HP.out]
      exact ⟨_, rfl, by unfold FracV; rw [HU.out]; exact hI, set4b sb2 (by omega) _ _ _ _⟩

end Go.Proofs.YthpibilefdmemaaDoor
