/- frac.Make: by its contract. -/
import Derived.Test.YthpibilefdmemaaDoorFrac2
namespace Go.Proofs.YthpibilefdmemaaDoor
open Go.RowKit

set_option maxRecDepth 100000 in
set_option maxHeartbeats 1600000 in
theorem FMake_any {x y : Int} {u v : Value} (w : World) (hx : IntV w u x) (hy : IntV w v y) (hn : Sm x) (hm : Sm y) : Calls Tryd.prog 41 #[u, v] w (FracPost w (Rat.divInt x y)) := by
  generalize hP : FracPost w (Rat.divInt x y) = Post
  have HP := hide hP
  clear hP
  obtain ⟨xn, xa, xl, xk, rfl⟩ := hx.parts
  obtain ⟨yn, ya, yl, yk, rfl⟩ := hy.parts
  obtain ⟨W, hW⟩ : ∃ W, (((w.alloc (.cells #[.bool xn, .slice xa xl xk] 24)).alloc (.cells #[.bool yn, .slice ya yl yk] 24)).alloc (.cells #[.bool false, .slice none 0 0, .bool false, .slice none 0 0] 58)) = W := ⟨_, rfl⟩
  have bx : Blk W w.heap.size 24 #[.bool xn, .slice xa xl xk] := by rw [← hW]; exact ((Blk.new w _ _).alloc _).alloc _
  have by_ : Blk W (w.heap.size + 1) 24 #[.bool yn, .slice ya yl yk] := by rw [← hW]; exact (Blk.new_at _ _ _ (by simp)).alloc _
  have bR : Blk W (w.heap.size + 1 + 1) 58 #[.bool false, .slice none 0 0, .bool false, .slice none 0 0] := by rw [← hW]; exact Blk.new_at _ _ _ (by simp)
  have sb : Below w.heap.size w W := by rw [← hW]; exact (((Below.refl w.heap.size w).alloc (Nat.le_refl _) _).alloc (by simp) _).alloc (by simp; omega) _
  obtain ⟨cx0, cx1, -⟩ := bx.c2
  obtain ⟨cy0, cy1, -⟩ := by_.c2
  have hK : Kq w 58 (w.heap.size + 1 + 1) W := ⟨sb, by omega, _, _, _, _, _, _, _, _, bR⟩
  have HW := hide hW
  clear hW
  go_enter Tryd.func41, Tryd.ntmps41
  go_upto_region 1 with (fail)
  rw [HW.out]
  clear HW
  clear hK cx0 cx1 cy0 cy1
  replace hx := hx.below sb (Nat.le_refl _)
  replace hy := hy.below sb (Nat.le_refl _)
  have s0 : Sm 0 := sm10 (by decide)
  have sG : Sm ((Nat.gcd x.natAbs y.natAbs : Nat) : Int) := sm_gcd hn hm
  have sgs : Sm (gsg x y) := by unfold gsg; split; exact sm_neg sG; exact sG
  have sD : Sm ((Rat.divInt x y).den : Int) := sm_den hm
  obtain ⟨y0, y1, -⟩ := by_.c2
  obtain ⟨C, hC⟩ : ∃ C, ordZ y 0 = C := ⟨_, rfl⟩
  have HC0 : Hid ((C == 0) = decide (y = 0)) := hide (by rw [← hC]; unfold ordZ; by_cases h : y = 0 <;> simp [h]; omega)
  have HC1 : Hid (decide (C < 0) = decide (y < 0)) := hide (by rw [← hC]; unfold ordZ; by_cases h : y < 0 <;> simp [h]; omega)
  have HC := hide hC
  clear hC
  go_wp2_with fail
  refine (Cmp_at hy (IntV.zero W) hm s0 (Below.refl _ _) HC.out).mono ?_
  rintro e w1 ⟨rfl, hb1⟩
  clear y0 y1
  replace bx := bx.below hb1 bx.lt
  replace by_ := by_.below hb1 by_.lt
  replace bR := bR.below hb1 bR.lt
  replace hx := hx.below hb1 (Nat.le_refl _)
  replace hy := hy.below hb1 (Nat.le_refl _)
  replace sb := sb.trans (hb1.mono sb.size)
  clear hb1
  by_cases h0 : y = 0
  · have e0 : (C == 0) = true := by rw [HC0.out, decide_eq_true h0]
    have e1 : decide (C = 0) = true := by rw [← e0]; by_cases h : C = 0 <;> simp [h]
    have HQ : Hid (Rat.divInt x y = 0) := hide (by rw [h0, Rat.divInt_zero])
    clear h0 hm hy
    obtain ⟨r0, r1, r2, r3, rf⟩ := bR.c4
    have rf0 := rf 0
    have rf1 := rf 1
    have rf2 := rf 2
    have rf3 := rf 3
    have hI := (FrV.mk (IntV.zero w1) (IntV.zero w1)).st4 bR (.bool false) (.slice none 0 0) (.bool false) (.slice none 0 0)
    obtain ⟨e4, e5, e6, e7, -⟩ := (bR.four (.bool false) (.slice none 0 0) (.bool false) (.slice none 0 0)).c4
    go_wp2_with fail
    refine bodyPost_ret (v := .agg #[.bool false, .slice none 0 0, .bool false, .slice none 0 0]) (by simp [results, Tryd.results41, go_sem, e4, e5, e6, e7]) rfl ?_
    rw [← HP.out, HQ.out]
    exact ⟨_, rfl, hI, set4b sb (by omega) _ _ _ _⟩
  · have e0 : (C == 0) = false := by rw [HC0.out, decide_eq_false h0]
    have e1 : decide (C = 0) = false := by rw [← e0]; by_cases h : C = 0 <;> simp [h]
    have HNE := hide h0
    have HG := hide (gsg_ne (x := x) h0)
    have HO := hide (make_over (x := x) h0)
    have HL := hide (make_below (x := x) h0)
    clear h0
    obtain ⟨x0, x1, -⟩ := bx.c2
    obtain ⟨y0, y1, -⟩ := by_.c2
    go_wp2_with fail
    refine (Gcd_any w1 hx hy hn hm).mono ?_
    rintro e w2 ⟨g, rfl, hg, hb2⟩
    obtain ⟨gn, ga, gl, gk, rfl⟩ := hg.parts
    clear x0 x1 y0 y1
    replace bx := bx.below hb2 bx.lt
    replace by_ := by_.below hb2 by_.lt
    replace bR := bR.below hb2 bR.lt
    replace hx := hx.below hb2 (Nat.le_refl _)
    replace hy := hy.below hb2 (Nat.le_refl _)
    replace sb := sb.trans (hb2.mono sb.size)
    clear hb2
    have hGL := bR.lt
    obtain ⟨w3, hw3⟩ : ∃ w3, w2.alloc (.cells #[.bool gn, .slice ga gl gk] 24) = w3 := ⟨_, rfl⟩
    have bg : Blk w3 w2.heap.size 24 #[.bool gn, .slice ga gl gk] := by rw [← hw3]; exact Blk.new _ _ _
    have hb3 : Below w2.heap.size w2 w3 := by rw [← hw3]; exact (Below.refl _ _).alloc (Nat.le_refl _) _
    replace hg := hg.below hb3 (Nat.le_refl _)
    replace bx := bx.below hb3 bx.lt
    replace by_ := by_.below hb3 by_.lt
    replace bR := bR.below hb3 bR.lt
    replace hx := hx.below hb3 (Nat.le_refl _)
    replace hy := hy.below hb3 (Nat.le_refl _)
    replace sb := sb.trans (hb3.mono sb.size)
    clear hb3
    have HW := hide hw3
    clear hw3
    go_upto_region 4 with (fail)
    rw [HW.out]
    clear HW
    generalize hGG : w2.heap.size = G at bg hGL ⊢
    clear hGG
    obtain ⟨y0, y1, -⟩ := by_.c2
    go_wp2_with fail
    refine (Cmp_at hy (IntV.zero w3) hm s0 (Below.refl _ _) HC.out).mono ?_
    rintro e w4 ⟨rfl, hb4⟩
    clear y0 y1
    replace bx := bx.below hb4 bx.lt
    replace by_ := by_.below hb4 by_.lt
    replace bR := bR.below hb4 bR.lt
    replace bg := bg.below hb4 bg.lt
    replace hx := hx.below hb4 (Nat.le_refl _)
    replace hy := hy.below hb4 (Nat.le_refl _)
    replace hg := hg.below hb4 (Nat.le_refl _)
    replace sb := sb.trans (hb4.mono sb.size)
    clear hb4
    clear e0 e1
    go_upto_if 21 with (fail)
    generalize hlt : decide (C < 0) = D at *
    have hD : D = decide (y < 0) := HC1.out
    clear hlt
    have HD := hide hD
    clear hD
    go_cut [] from 22 to 23 (fun wc => ∃ (n : Bool) (a : Option Addr) (l k : Nat), Blk wc w.heap.size 24 #[.bool xn, .slice xa xl xk] ∧ Blk wc (w.heap.size + 1) 24 #[.bool yn, .slice ya yl yk] ∧ (∃ (n1 : Bool) (a1 : Option Addr) (l1 k1 : Nat) (n2 : Bool) (a2 : Option Addr) (l2 k2 : Nat), Blk wc (w.heap.size + 1 + 1) 58 #[.bool n1, .slice a1 l1 k1, .bool n2, .slice a2 l2 k2]) ∧ Blk wc G 24 #[.bool n, .slice a l k] ∧ IntV wc (.agg #[.bool xn, .slice xa xl xk]) x ∧ IntV wc (.agg #[.bool yn, .slice ya yl yk]) y ∧ IntV wc (.agg #[.bool n, .slice a l k]) (gsg x y) ∧ Below w.heap.size w wc)
    case first =>
      have hGw : w.heap.size ≤ G := by omega
      cases D with
      | true =>
        have HE : Hid (gsg x y = -((Nat.gcd x.natAbs y.natAbs : Nat) : Int)) := hide (by have h := HD.out; unfold gsg; rw [if_pos (by simpa using h.symm)])
        obtain ⟨g0, g1, gf⟩ := bg.c2
        go_wp2_with fail
        refine (Neg_any w4 hg sG).mono ?_
        rintro e w5 ⟨r, rfl, hr, hb5⟩
        obtain ⟨rn, ra, rl, rk, rfl⟩ := hr.parts
        clear g0 g1 gf
        replace bx := bx.below hb5 bx.lt
        replace by_ := by_.below hb5 by_.lt
        replace bR := bR.below hb5 bR.lt
        replace bg := bg.below hb5 bg.lt
        replace hx := hx.below hb5 (Nat.le_refl _)
        replace hy := hy.below hb5 (Nat.le_refl _)
        replace hg := hg.below hb5 (Nat.le_refl _)
        replace sb := sb.trans (hb5.mono sb.size)
        clear hb5
        obtain ⟨g0, g1, gf⟩ := bg.c2
        have gf0 := gf 0
        have gf1 := gf 1
        go_wp2_with fail
        go_meet
        rw [HE.out]
        exact ⟨rn, ra, rl, rk, (bx.far (p := ⟨G, 0, none⟩) (by simp; omega) _).far (p := ⟨G, 1, none⟩) (by simp; omega) _, (by_.far (p := ⟨G, 0, none⟩) (by simp; omega) _).far (p := ⟨G, 1, none⟩) (by simp; omega) _, ⟨_, _, _, _, _, _, _, _, (bR.far (p := ⟨G, 0, none⟩) (by simp; omega) _).far (p := ⟨G, 1, none⟩) (by simp; omega) _⟩, bg.two _ _, hx.st2 bg _ _, hy.st2 bg _ _, hr.st2 bg _ _, set2b sb hGw _ _ _ _⟩
      | false =>
        have HE : Hid (gsg x y = ((Nat.gcd x.natAbs y.natAbs : Nat) : Int)) := hide (by have h := HD.out; unfold gsg; rw [if_neg (by simpa using h.symm)])
        go_wp2_with fail
        go_meet
        rw [HE.out]
        exact ⟨_, _, _, _, bx, by_, ⟨_, _, _, _, _, _, _, _, bR⟩, bg, hx, hy, hg, sb⟩
    case rest =>
      clear bx by_ bR bg hx hy hg sb
      obtain ⟨gn, ga, gl, gk, bx, by_, ⟨_, _, _, _, _, _, _, _, bR⟩, bg, hx, hy, hg, sb⟩ := hcut
      obtain ⟨x0, x1, -⟩ := bx.c2
      obtain ⟨y0, y1, -⟩ := by_.c2
      obtain ⟨g0, g1, -⟩ := bg.c2
      go_wp2_with fail
      refine (Div_any _ hx hg hn sgs).mono ?_
      rintro e w6 ⟨p, t, rfl, hp, ht, hbw6⟩
      rw [if_neg HG.out] at hp ht
      obtain ⟨pn, pa, pl, pc, rfl⟩ := hp.parts
      obtain ⟨tn, ta, tl, tc, rfl⟩ := ht.parts
      clear x0 x1 y0 y1 g0 g1
      replace bx := bx.below hbw6 bx.lt
      replace by_ := by_.below hbw6 by_.lt
      replace bR := bR.below hbw6 bR.lt
      replace bg := bg.below hbw6 bg.lt
      replace hx := hx.below hbw6 (Nat.le_refl _)
      replace hy := hy.below hbw6 (Nat.le_refl _)
      replace hg := hg.below hbw6 (Nat.le_refl _)
      replace sb := sb.trans (hbw6.mono sb.size)
      clear hbw6
      have hLp := bg.lt
      obtain ⟨w6z, hzw6⟩ : ∃ w5, (w6.alloc (.cells #[.bool false, .slice none 0 0] 24)).alloc (.cells #[.bool false, .slice none 0 0] 24) = w5 := ⟨_, rfl⟩
      obtain ⟨⟨q0, q1, q2, q3, q4, q5⟩, w6b, hww6, hBp, hBt, hbz⟩ := boxes2 hzw6 (.bool pn) (.slice pa pl pc) (.bool tn) (.slice ta tl tc)
      replace hp := hp.below hbz (Nat.le_refl _)
      replace bx := bx.below hbz bx.lt
      replace by_ := by_.below hbz by_.lt
      replace bR := bR.below hbz bR.lt
      replace bg := bg.below hbz bg.lt
      replace hx := hx.below hbz (Nat.le_refl _)
      replace hy := hy.below hbz (Nat.le_refl _)
      replace hg := hg.below hbz (Nat.le_refl _)
      replace sb := sb.trans (hbz.mono sb.size)
      clear hbz
      have HW := hide hww6
      clear hww6
      go_upto_region 7 with (fail)
      rw [HW.out]
      clear HW hzw6 q0 q1 q2 q3 q4 q5 ht hBt
      generalize hgp : w6.heap.size = Gp at hBp hLp ⊢
      clear hgp
      rw [HO.out] at hp
      obtain ⟨x0, x1, -⟩ := bx.c2
      obtain ⟨y0, y1, -⟩ := by_.c2
      obtain ⟨g0, g1, -⟩ := bg.c2
      go_wp2_with fail
      refine (Div_any _ hy hg hm sgs).mono ?_
      rintro e w8 ⟨d, u, rfl, hd, hu, hbw8⟩
      rw [if_neg HG.out] at hd hu
      obtain ⟨dn, da, dl, dc, rfl⟩ := hd.parts
      obtain ⟨un, ua, ul, uc, rfl⟩ := hu.parts
      clear x0 x1 y0 y1 g0 g1
      replace bx := bx.below hbw8 bx.lt
      replace by_ := by_.below hbw8 by_.lt
      replace bR := bR.below hbw8 bR.lt
      replace bg := bg.below hbw8 bg.lt
      replace hBp := hBp.below hbw8 hBp.lt
      replace hx := hx.below hbw8 (Nat.le_refl _)
      replace hy := hy.below hbw8 (Nat.le_refl _)
      replace hg := hg.below hbw8 (Nat.le_refl _)
      replace hp := hp.below hbw8 (Nat.le_refl _)
      replace sb := sb.trans (hbw8.mono sb.size)
      clear hbw8
      have hLd := hBp.lt
      obtain ⟨w8z, hzw8⟩ : ∃ w5, (w8.alloc (.cells #[.bool false, .slice none 0 0] 24)).alloc (.cells #[.bool false, .slice none 0 0] 24) = w5 := ⟨_, rfl⟩
      obtain ⟨⟨q0, q1, q2, q3, q4, q5⟩, w8b, hww8, hBd, hBu, hbz⟩ := boxes2 hzw8 (.bool dn) (.slice da dl dc) (.bool un) (.slice ua ul uc)
      replace hd := hd.below hbz (Nat.le_refl _)
      replace bx := bx.below hbz bx.lt
      replace by_ := by_.below hbz by_.lt
      replace bR := bR.below hbz bR.lt
      replace bg := bg.below hbz bg.lt
      replace hBp := hBp.below hbz hBp.lt
      replace hx := hx.below hbz (Nat.le_refl _)
      replace hy := hy.below hbz (Nat.le_refl _)
      replace hg := hg.below hbz (Nat.le_refl _)
      replace hp := hp.below hbz (Nat.le_refl _)
      replace sb := sb.trans (hbz.mono sb.size)
      clear hbz
      have HW := hide hww8
      clear hww8
      go_upto_region 8 with (fail)
      rw [HW.out]
      clear HW hzw8 q0 q1 q2 q3 q4 q5 hu hBu
      generalize hgd : w8.heap.size = Gd at hBd hLd ⊢
      clear hgd
      rw [HL.out] at hd
      obtain ⟨d0, d1, -⟩ := hBd.c2
      go_wp2_with fail
      refine (isOne_any _ hd sD).mono ?_
      rintro e w10 ⟨rfl, hb10⟩
      clear d0 d1
      replace bx := bx.below hb10 bx.lt
      replace by_ := by_.below hb10 by_.lt
      replace bR := bR.below hb10 bR.lt
      replace bg := bg.below hb10 bg.lt
      replace hBp := hBp.below hb10 hBp.lt
      replace hBd := hBd.below hb10 hBd.lt
      replace hx := hx.below hb10 (Nat.le_refl _)
      replace hy := hy.below hb10 (Nat.le_refl _)
      replace hg := hg.below hb10 (Nat.le_refl _)
      replace hp := hp.below hb10 (Nat.le_refl _)
      replace hd := hd.below hb10 (Nat.le_refl _)
      replace sb := sb.trans (hb10.mono sb.size)
      clear hb10
      obtain ⟨r0, r1, r2, r3, rf⟩ := bR.c4
      have rf0 := rf 0
      have rf1 := rf 1
      have rf2 := rf 2
      have rf3 := rf 3
      obtain ⟨d0, d1, df⟩ := hBd.c2
      have df0 := df 0
      have df1 := df 1
      obtain ⟨p0, p1, -⟩ := hBp.c2
      by_cases h1 : ((Rat.divInt x y).den : Int) = 1
      · have e1 := decide_eq_true h1
        have HU : Hid (und (Rat.divInt x y) = 0) := hide (by unfold und; rw [if_pos (by omega)])
        clear h1 HL
        have n1 : w.heap.size + 1 + 1 ≠ Gd := by omega
        have n2 : Gp ≠ Gd := by omega
        have hBd2 := hBd.two (.bool false) (.slice none 0 0)
        have hBp2 := (hBp.far (p := ⟨Gd, 0, none⟩) n2 (.bool false)).far (p := ⟨Gd, 1, none⟩) n2 (.slice none 0 0)
        have bR2 := (bR.far (p := ⟨Gd, 0, none⟩) n1 (.bool false)).far (p := ⟨Gd, 1, none⟩) n1 (.slice none 0 0)
        have hp2 := hp.st2 hBd (.bool false) (.slice none 0 0)
        have sb2 := set2b (g := Gd) sb (by omega) 0 1 (.bool false) (.slice none 0 0)
        go_upto_region 10 with (fail)
        generalize (w10.setCell ⟨Gd, 0, none⟩ (.bool false)).setCell ⟨Gd, 1, none⟩ (.slice none 0 0) = w11 at hBd2 hBp2 bR2 hp2 sb2 ⊢
        clear d0 d1 df df0 df1 p0 p1 r0 r1 r2 r3 rf rf0 rf1 rf2 rf3
        obtain ⟨r0, r1, r2, r3, rf⟩ := bR2.c4
        have rf0 := rf 0
        have rf1 := rf 1
        have rf2 := rf 2
        have rf3 := rf 3
        obtain ⟨d0, d1, -⟩ := hBd2.c2
        obtain ⟨p0, p1, -⟩ := hBp2.c2
        have hI := (FrV.mk hp2 (IntV.zero w11)).st4 bR2 (.bool pn) (.slice pa pl pc) (.bool false) (.slice none 0 0)
        obtain ⟨e4, e5, e6, e7, -⟩ := (bR2.four (.bool pn) (.slice pa pl pc) (.bool false) (.slice none 0 0)).c4
        go_wp2_with fail
        refine bodyPost_ret (v := .agg #[.bool pn, .slice pa pl pc, .bool false, .slice none 0 0]) (by simp [results, Tryd.results41, go_sem, e4, e5, e6, e7]) rfl ?_
        rw [← HP.out]
        exact ⟨_, rfl, by unfold FracV; rw [HU.out]; exact hI, set4b sb2 (by omega) _ _ _ _⟩
      · have e1 := decide_eq_false h1
        have HU : Hid (und (Rat.divInt x y) = ((Rat.divInt x y).den : Int)) := hide (by unfold und; rw [if_neg (by omega)])
        clear h1 HL r0 r1 r2 r3 rf rf0 rf1 rf2 rf3 d0 d1 df df0 df1 p0 p1
        go_upto_region 10 with (fail)
        obtain ⟨r0, r1, r2, r3, rf⟩ := bR.c4
        have rf0 := rf 0
        have rf1 := rf 1
        have rf2 := rf 2
        have rf3 := rf 3
        obtain ⟨d0, d1, -⟩ := hBd.c2
        obtain ⟨p0, p1, -⟩ := hBp.c2
        have hI := (FrV.mk hp hd).st4 bR (.bool pn) (.slice pa pl pc) (.bool dn) (.slice da dl dc)
        obtain ⟨e4, e5, e6, e7, -⟩ := (bR.four (.bool pn) (.slice pa pl pc) (.bool dn) (.slice da dl dc)).c4
        go_wp2_with fail
        refine bodyPost_ret (v := .agg #[.bool pn, .slice pa pl pc, .bool dn, .slice da dl dc]) (by simp [results, Tryd.results41, go_sem, e4, e5, e6, e7]) rfl ?_
        rw [← HP.out]
        exact ⟨_, rfl, by unfold FracV; rw [HU.out]; exact hI, set4b sb (by omega) _ _ _ _⟩
end Go.Proofs.YthpibilefdmemaaDoor
