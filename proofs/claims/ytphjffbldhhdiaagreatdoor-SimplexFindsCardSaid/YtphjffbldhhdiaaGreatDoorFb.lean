/- Texts in one file: Rf1, Rf2, Rf3, Rf4, Rf5, FLead, FOdd, FNumLaw. -/
import Derived.Test.YtphjffbldhhdiaaGreatDoorFa
namespace Go.Proofs.YtphjffbldhhdiaaGreatDoor
open Go.RowKit

theorem NumV.sign {w : World} {n : Bool} {a : Option Addr} {l k : Nat} {z : Int} (h : NumV w (.agg #[.bool n, .slice a l k]) z) : n = decide (z < 0) ∧ l = dlen z := by
  obtain ⟨a', c', e, -, -⟩ := h
  simp at e
  exact ⟨e.1, e.2.2.1⟩
theorem dlen_eq_zero {z : Int} : dlen z = 0 ↔ z = 0 := by
  constructor
  · intro h
    have := (dg_eq_nil T2).1 (List.length_eq_zero_iff.1 h)
    omega
  · rintro rfl; rfl
theorem Dm.neg {x : Int} (h : Dm x) : Dm (-x) := by unfold Dm dlen at *; rw [Int.natAbs_neg]; exact h
theorem dlen_mono {x y : Int} (h : x.natAbs ≤ y.natAbs) : dlen x ≤ dlen y := dg_len_mono T2 h
theorem Dm.le {x y : Int} (hy : Dm y) (h : x.natAbs ≤ y.natAbs) : Dm x := Nat.le_trans (dlen_mono h) hy

set_option maxRecDepth 100000 in
set_option maxHeartbeats 3200000 in
theorem RInt2_any (m : Int) (w : World) (h1 : -9223372036854775807 ≤ m) (h2 : m ≤ 9223372036854775807) : Calls Tryz.prog 29 #[.int .i64 m] w (RFracPost w (m : Rat)) := by
  generalize hP : RFracPost w (m : Rat) = Post
  have HP := hide hP
  clear hP
  obtain ⟨W, hW⟩ : ∃ W, (w.alloc (.cells #[.bool false, .slice none 0 0, .bool false, .slice none 0 0] 68)) = W := ⟨_, rfl⟩
  have bR : Blk W w.heap.size 68 #[.bool false, .slice none 0 0, .bool false, .slice none 0 0] := by rw [← hW]; exact Blk.new w _ _
  have sb : Below w.heap.size w W := by rw [← hW]; exact (Below.refl w.heap.size w).alloc (Nat.le_refl _) _
  have hK : Kq w 68 w.heap.size W := ⟨sb, by omega, _, _, _, _, _, _, _, _, bR⟩
  have HW := hide hW
  clear hW  bR
  go_enter Tryz.func29, Tryz.ntmps29
  go_upto_region 1 with (fail)
  rw [HW.out]
  clear HW
  have hN : Hid ((m : Rat).num = m ∧ (((m : Rat).den : Nat) : Int) = 1) := hide ⟨Rat.num_intCast m, by rw [Rat.den_intCast]; rfl⟩
  go_wp2_with fail
  refine (RInt_any m W h1 h2).mono ?_
  rintro e w1 ⟨r, rfl, hr, hb1⟩
  obtain ⟨rn, ra, rl, rk, rfl⟩ := hr.parts
  have hK1 := hK.below hb1
  go_wp2_with fail
  refine (RInt_any 1 w1 (by decide) (by decide)).mono ?_
  rintro e w2 ⟨s, rfl, hs, hb2⟩
  obtain ⟨rm, rb, ri, rj, rfl⟩ := hs.parts
  replace hr := hr.below hb2 (Nat.le_refl _)
  have hb1 := hb2
  obtain ⟨_, _, _, _, _, _, _, _, k0, k1, k2, k3, kf0, kf1, kf2, kf3, hX4⟩ := Kq.at (t := 68) (g := w.heap.size) (w := w) hK1 hb1
  have hI := (RFrV.mk hr hs).st4 hX4 (.bool rn) (.slice ra rl rk) (.bool rm) (.slice rb ri rj)
  obtain ⟨e0, e1, e2, e3, -⟩ := (hX4.four (.bool rn) (.slice ra rl rk) (.bool rm) (.slice rb ri rj)).c4
  go_wp2_with fail
  refine bodyPost_ret (v := Value.agg #[.bool rn, .slice ra rl rk, .bool rm, .slice rb ri rj]) (by simp [results, Tryz.results29, go_sem, e0, e1, e2, e3]) rfl ?_
  rw [← HP.out]
  exact ⟨_, rfl, by unfold RFracV; rw [hN.out.1, hN.out.2]; exact hI, set4b (hK1.below hb1).bel (Nat.le_refl _) _ _ _ _⟩

set_option maxRecDepth 100000 in
set_option maxHeartbeats 3200000 in
theorem RMake2_any {x y : Int} {u v : Value} (w : World) (hx : NumV w u x) (hy : NumV w v y) (hn : Dm x) (hm : Dm y) : Calls Tryz.prog 36 #[u, v] w (RFracPost w (Rat.divInt x y)) := by
  generalize hP : RFracPost w (Rat.divInt x y) = Post
  have HP := hide hP
  clear hP
  obtain ⟨xn, xa, xl, xk, rfl⟩ := hx.parts
  obtain ⟨yn, ya, yl, yk, rfl⟩ := hy.parts
  have hxl := hide hx.sign.2
  have hyl := hide hy.sign
  obtain ⟨W, hW⟩ : ∃ W, (((w.alloc (.cells #[.bool xn, .slice xa xl xk] 66)).alloc (.cells #[.bool yn, .slice ya yl yk] 66)).alloc (.cells #[.bool false, .slice none 0 0, .bool false, .slice none 0 0] 68)) = W := ⟨_, rfl⟩
  have bx : Blk W w.heap.size 66 #[.bool xn, .slice xa xl xk] := by rw [← hW]; exact ((Blk.new w _ _).alloc _).alloc _
  have by_ : Blk W (w.heap.size + 1) 66 #[.bool yn, .slice ya yl yk] := by rw [← hW]; exact (Blk.new_at _ _ _ (by simp)).alloc _
  have bR : Blk W (w.heap.size + 1 + 1) 68 #[.bool false, .slice none 0 0, .bool false, .slice none 0 0] := by rw [← hW]; exact Blk.new_at _ _ _ (by simp)
  have sb : Below w.heap.size w W := by rw [← hW]; exact (((Below.refl w.heap.size w).alloc (Nat.le_refl _) _).alloc (by simp) _).alloc (by simp; omega) _
  obtain ⟨cx0, cx1, -⟩ := bx.c2
  obtain ⟨cy0, cy1, -⟩ := by_.c2
  have hK : Kq w 68 (w.heap.size + 1 + 1) W := ⟨sb, by omega, _, _, _, _, _, _, _, _, bR⟩
  have HW := hide hW
  clear hW
  go_enter Tryz.func36, Tryz.ntmps36
  go_upto_region 1 with (fail)
  rw [HW.out]
  clear HW
  clear hK cx0 cx1 cy0 cy1
  replace hx := hx.below sb (Nat.le_refl _)
  replace hy := hy.below sb (Nat.le_refl _)
  obtain ⟨x0, x1, -⟩ := bx.c2
  obtain ⟨y0, y1, -⟩ := by_.c2
  by_cases h0 : y = 0 ∨ x = 0
  · have HQ : Hid (Rat.divInt x y = ((0 : Int) : Rat)) := hide (by rcases h0 with h | h <;> subst h <;> simp [Rat.divInt_zero, Rat.zero_divInt])
    have s0 : True := trivial
    clear s0
    by_cases hy0 : y = 0
    · obtain rfl : yl = 0 := by rw [hyl.out.2, hy0]; rfl
      clear h0 hy0 x0 x1
      go_wp2_with fail
      refine (RInt2_any 0 _ (by decide) (by decide)).mono ?_
      rintro e w1 ⟨r, rfl, hr, hb1⟩
      obtain ⟨rn, ra, rl, rk, rm, rb, ri, rj, rfl, -, -⟩ := RFrV.parts hr
      have bR1 := bR.below hb1 bR.lt
      obtain ⟨r0, r1, r2, r3, rf⟩ := bR1.c4
      have rf0 := rf 0
      have rf1 := rf 1
      have rf2 := rf 2
      have rf3 := rf 3
      have hI := RFrV.st4 hr bR1 (.bool rn) (.slice ra rl rk) (.bool rm) (.slice rb ri rj)
      obtain ⟨e4, e5, e6, e7, -⟩ := (bR1.four (.bool rn) (.slice ra rl rk) (.bool rm) (.slice rb ri rj)).c4
      go_wp2_with fail
      refine bodyPost_ret (v := .agg #[.bool rn, .slice ra rl rk, .bool rm, .slice rb ri rj]) (by simp [results, Tryz.results36, go_sem, e4, e5, e6, e7]) rfl ?_
      rw [← HP.out, HQ.out]
      exact ⟨_, rfl, hI, set4b (sb.trans (hb1.mono sb.size)) (by omega) _ _ _ _⟩
    · have hx0 : x = 0 := by rcases h0 with h | h; exact absurd h hy0; exact h
      obtain rfl : xl = 0 := by rw [hxl.out, hx0]; rfl
      have hl0 : yl ≠ 0 := by rw [hyl.out.2]; intro e; exact hy0 (dlen_eq_zero.1 e)
      have e0 : ((yl : Int) == 0) = false := beq_eq_false_iff_ne.2 (by omega)
      have e1 : decide (yl = 0) = false := decide_eq_false hl0
      clear h0 hy0 hx0 hl0
      go_wp2_with fail
      refine (RInt2_any 0 _ (by decide) (by decide)).mono ?_
      rintro e w1 ⟨r, rfl, hr, hb1⟩
      obtain ⟨rn, ra, rl, rk, rm, rb, ri, rj, rfl, -, -⟩ := RFrV.parts hr
      have bR1 := bR.below hb1 bR.lt
      obtain ⟨r0, r1, r2, r3, rf⟩ := bR1.c4
      have rf0 := rf 0
      have rf1 := rf 1
      have rf2 := rf 2
      have rf3 := rf 3
      have hI := RFrV.st4 hr bR1 (.bool rn) (.slice ra rl rk) (.bool rm) (.slice rb ri rj)
      obtain ⟨e4, e5, e6, e7, -⟩ := (bR1.four (.bool rn) (.slice ra rl rk) (.bool rm) (.slice rb ri rj)).c4
      go_wp2_with fail
      refine bodyPost_ret (v := .agg #[.bool rn, .slice ra rl rk, .bool rm, .slice rb ri rj]) (by simp [results, Tryz.results36, go_sem, e4, e5, e6, e7]) rfl ?_
      rw [← HP.out, HQ.out]
      exact ⟨_, rfl, hI, set4b (sb.trans (hb1.mono sb.size)) (by omega) _ _ _ _⟩
  · have hy0 : y ≠ 0 := fun h => h0 (.inl h)
    have hl0 : yl ≠ 0 := by rw [hyl.out.2]; intro e; exact hy0 (dlen_eq_zero.1 e)
    have hk0 : xl ≠ 0 := by rw [hxl.out]; intro e; exact h0 (.inr (dlen_eq_zero.1 e))
    have e0 : ((yl : Int) == 0) = false := beq_eq_false_iff_ne.2 (by omega)
    have e1 : decide (yl = 0) = false := decide_eq_false hl0
    have e2 : ((xl : Int) == 0) = false := beq_eq_false_iff_ne.2 (by omega)
    have e3 : decide (xl = 0) = false := decide_eq_false hk0
    clear h0 hl0 hk0
    have HNE := hide hy0
    clear hy0
    go_upto_if 22 with (fail)
    go_cut [] from 23 to 26 (fun wc => ∃ (X Y : Int) (xn : Bool) (xa : Option Addr) (xl xk : Nat) (yn : Bool) (ya : Option Addr) (yl yk : Nat), 0 < Y ∧ Dm X ∧ Dm Y ∧ Rat.divInt X Y = Rat.divInt x y ∧ Blk wc w.heap.size 66 #[.bool xn, .slice xa xl xk] ∧ Blk wc (w.heap.size + 1) 66 #[.bool yn, .slice ya yl yk] ∧ (∃ (n1 : Bool) (a1 : Option Addr) (l1 k1 : Nat) (n2 : Bool) (a2 : Option Addr) (l2 k2 : Nat), Blk wc (w.heap.size + 1 + 1) 68 #[.bool n1, .slice a1 l1 k1, .bool n2, .slice a2 l2 k2]) ∧ NumV wc (.agg #[.bool xn, .slice xa xl xk]) X ∧ NumV wc (.agg #[.bool yn, .slice ya yl yk]) Y ∧ Below w.heap.size w wc)
    case first =>
      by_cases hlt : y < 0
      · have hyn : yn = true := by rw [hyl.out.1, decide_eq_true hlt]
        subst hyn
        have HX : Hid (0 < -y ∧ Rat.divInt (-x) (-y) = Rat.divInt x y) := hide ⟨by omega, Rat.neg_divInt_neg x y⟩
        clear hlt
        go_wp2_with fail
        refine (RNeg_any W hx hn).mono ?_
        rintro e w1 ⟨r, rfl, hr, hb1⟩
        obtain ⟨rn, ra, rl, rk, rfl⟩ := hr.parts
        clear x0 x1 y0 y1
        replace bx := bx.below hb1 bx.lt
        replace by_ := by_.below hb1 by_.lt
        replace bR := bR.below hb1 bR.lt
        replace hx := hx.below hb1 (Nat.le_refl _)
        replace hy := hy.below hb1 (Nat.le_refl _)
        replace sb := sb.trans (hb1.mono sb.size)
        clear hb1
        obtain ⟨x0, x1, xf⟩ := bx.c2
        have xf0 := xf 0
        have xf1 := xf 1
        have bx2 := bx.two (.bool rn) (.slice ra rl rk)
        have by2 := (by_.far (p := ⟨w.heap.size, 0, none⟩) (by simp) (.bool rn)).far (p := ⟨w.heap.size, 1, none⟩) (by simp) (.slice ra rl rk)
        have bR2 := (bR.far (p := ⟨w.heap.size, 0, none⟩) (by simp; omega) (.bool rn)).far (p := ⟨w.heap.size, 1, none⟩) (by simp; omega) (.slice ra rl rk)
        have hr2 := hr.st2 bx (.bool rn) (.slice ra rl rk)
        have hy2 := hy.st2 bx (.bool rn) (.slice ra rl rk)
        have sb2 := set2b sb (Nat.le_refl _) 0 1 (.bool rn) (.slice ra rl rk)
        go_upto_region 5 with (fail)
        generalize (w1.setCell ⟨w.heap.size, 0, none⟩ (.bool rn)).setCell ⟨w.heap.size, 1, none⟩ (.slice ra rl rk) = w2 at bx2 by2 bR2 hr2 hy2 sb2 ⊢
        clear x0 x1 xf xf0 xf1 bx by_ bR hx hy sb hr
        obtain ⟨y0, y1, -⟩ := by2.c2
        go_wp2_with fail
        refine (RNeg_any w2 hy2 hm).mono ?_
        rintro e w3 ⟨s, rfl, hs, hb3⟩
        obtain ⟨sn, sa, sl, sk, rfl⟩ := hs.parts
        clear y0 y1
        replace bx2 := bx2.below hb3 bx2.lt
        replace by2 := by2.below hb3 by2.lt
        replace bR2 := bR2.below hb3 bR2.lt
        replace hr2 := hr2.below hb3 (Nat.le_refl _)
        replace sb2 := sb2.trans (hb3.mono sb2.size)
        obtain ⟨y0, y1, yf⟩ := by2.c2
        have yf0 := yf 0
        have yf1 := yf 1
        go_wp2_with fail
        go_meet
        exact ⟨-x, -y, rn, ra, rl, rk, sn, sa, sl, sk, HX.out.1, hn.neg, hm.neg, HX.out.2, (bx2.far (by simp) _).far (by simp) _, by2.two _ _, ⟨_, _, _, _, _, _, _, _, (bR2.far (by simp) _).far (by simp) _⟩, hr2.st2 by2 _ _, hs.st2 by2 _ _, set2b sb2 (by omega) _ _ _ _⟩
      · have hyn : yn = false := by rw [hyl.out.1, decide_eq_false hlt]
        subst hyn
        have HX : Hid (0 < y) := hide (by have := HNE.out; omega)
        clear hlt
        go_wp2_with fail
        go_meet
        exact ⟨x, y, xn, xa, xl, xk, false, ya, yl, yk, HX.out, hn, hm, rfl, bx, by_, ⟨_, _, _, _, _, _, _, _, bR⟩, hx, hy, sb⟩
    case rest =>
      clear bx by_ bR hx hy sb hn hm x0 x1 y0 y1 e0 e1 e2 e3 hxl hyl
      obtain ⟨X, Y, xn, xa, xl, xk, yn, ya, yl, yk, hY, hn, hm, hQ, bx, by_, ⟨_, _, _, _, _, _, _, _, bR⟩, hx, hy, sb⟩ := hcut
      have HQ := hide hQ
      have HG : Hid (¬ ((Nat.gcd X.natAbs Y.natAbs : Nat) : Int) = 0) := hide (by have := gsg_ne (x := X) (show Y ≠ 0 by omega); unfold gsg at this; rwa [if_neg (by omega)] at this)
      have HO : Hid (X / ((Nat.gcd X.natAbs Y.natAbs : Nat) : Int) = (Rat.divInt x y).num) := hide (by have h := make_over (x := X) (show Y ≠ 0 by omega); unfold gsg at h; rw [if_neg (by omega), hQ] at h; exact h)
      have HL : Hid (Y / ((Nat.gcd X.natAbs Y.natAbs : Nat) : Int) = ((Rat.divInt x y).den : Int)) := hide (by have h := make_below (x := X) (show Y ≠ 0 by omega); unfold gsg at h; rw [if_neg (by omega), hQ] at h; exact h)
      have sG : Dm ((Nat.gcd X.natAbs Y.natAbs : Nat) : Int) := hm.le (by have := Nat.le_of_dvd (show 0 < Y.natAbs by omega) (Nat.gcd_dvd_right X.natAbs Y.natAbs); omega)
      clear hQ hY
      rename_i wc
      obtain ⟨x0, x1, -⟩ := bx.c2
      obtain ⟨y0, y1, -⟩ := by_.c2
      go_wp2_with fail
      refine (RGcd_any _ hx hy hn hm).mono ?_
      rintro e w2 ⟨g, rfl, hg, hb2⟩
      obtain ⟨gn, ga, gl, gk, rfl⟩ := hg.parts
      clear x0 x1 y0 y1
      replace bx := bx.below hb2 bx.lt
      replace by_ := by_.below hb2 by_.lt
      replace bR := bR.below hb2 bR.lt
      replace hx := hx.below hb2 (Nat.le_refl _)
      replace hy := hy.below hb2 (Nat.le_refl _)
      replace sb := sb.trans (hb2.mono sb.size)
      clear hb2
      have hGL := bR.lt
      obtain ⟨w3, hw3⟩ : ∃ w3, w2.alloc (.cells #[.bool gn, .slice ga gl gk] 66) = w3 := ⟨_, rfl⟩
      have bg : Blk w3 w2.heap.size 66 #[.bool gn, .slice ga gl gk] := by rw [← hw3]; exact Blk.new _ _ _
      have hb3 : Below w2.heap.size w2 w3 := by rw [← hw3]; exact (Below.refl _ _).alloc (Nat.le_refl _) _
      replace hg := hg.below hb3 (Nat.le_refl _)
      replace bx := bx.below hb3 bx.lt
      replace by_ := by_.below hb3 by_.lt
      replace bR := bR.below hb3 bR.lt
      replace hx := hx.below hb3 (Nat.le_refl _)
      replace hy := hy.below hb3 (Nat.le_refl _)
      replace sb := sb.trans (hb3.mono sb.size)
      clear hb3
      have HW := hide hw3
      clear hw3
      go_upto_region 7 with (fail)
      rw [HW.out]
      clear HW
      generalize hGG : w2.heap.size = G at bg hGL ⊢
      clear hGG
      obtain ⟨x0, x1, -⟩ := bx.c2
      obtain ⟨y0, y1, -⟩ := by_.c2
      obtain ⟨g0, g1, -⟩ := bg.c2
      go_wp2_with fail
      refine (RDiv_any _ hx hg hn sG).mono ?_
      rintro e w6 ⟨p, t, rfl, hp, ht, hbw6⟩
      rw [if_neg HG.out] at hp ht
      obtain ⟨pn, pa, pl, pc, rfl⟩ := hp.parts
      obtain ⟨tn, ta, tl, tc, rfl⟩ := ht.parts
      clear x0 x1 y0 y1 g0 g1
      replace bx := bx.below hbw6 bx.lt
      replace by_ := by_.below hbw6 by_.lt
      replace bR := bR.below hbw6 bR.lt
      replace bg := bg.below hbw6 bg.lt
      replace hx := hx.below hbw6 (Nat.le_refl _)
      replace hy := hy.below hbw6 (Nat.le_refl _)
      replace hg := hg.below hbw6 (Nat.le_refl _)
      replace sb := sb.trans (hbw6.mono sb.size)
      clear hbw6
      have hLp := bg.lt
      obtain ⟨w6z, hzw6⟩ : ∃ w5, (w6.alloc (.cells #[.bool false, .slice none 0 0] 66)).alloc (.cells #[.bool false, .slice none 0 0] 66) = w5 := ⟨_, rfl⟩
      obtain ⟨⟨q0, q1, q2, q3, q4, q5⟩, w6b, hww6, hBp, hBt, hbz⟩ := boxes2 hzw6 (.bool pn) (.slice pa pl pc) (.bool tn) (.slice ta tl tc)
      replace hp := hp.below hbz (Nat.le_refl _)
      replace bx := bx.below hbz bx.lt
      replace by_ := by_.below hbz by_.lt
      replace bR := bR.below hbz bR.lt
      replace bg := bg.below hbz bg.lt
      replace hx := hx.below hbz (Nat.le_refl _)
      replace hy := hy.below hbz (Nat.le_refl _)
      replace hg := hg.below hbz (Nat.le_refl _)
      replace sb := sb.trans (hbz.mono sb.size)
      clear hbz
      have HW := hide hww6
      clear hww6
      go_upto_region 8 with (fail)
      rw [HW.out]
      clear HW hzw6 q0 q1 q2 q3 q4 q5 ht hBt
      generalize hgp : w6.heap.size = Gp at hBp hLp ⊢
      clear hgp
      rw [HO.out] at hp
      obtain ⟨x0, x1, -⟩ := bx.c2
      obtain ⟨y0, y1, -⟩ := by_.c2
      obtain ⟨g0, g1, -⟩ := bg.c2
      go_wp2_with fail
      refine (RDiv_any _ hy hg hm sG).mono ?_
      rintro e w8 ⟨d, u, rfl, hd, hu, hbw8⟩
      rw [if_neg HG.out] at hd hu
      obtain ⟨dn, da, dl, dc, rfl⟩ := hd.parts
      obtain ⟨un, ua, ul, uc, rfl⟩ := hu.parts
      clear x0 x1 y0 y1 g0 g1
      replace bx := bx.below hbw8 bx.lt
      replace by_ := by_.below hbw8 by_.lt
      replace bR := bR.below hbw8 bR.lt
      replace bg := bg.below hbw8 bg.lt
      replace hBp := hBp.below hbw8 hBp.lt
      replace hx := hx.below hbw8 (Nat.le_refl _)
      replace hy := hy.below hbw8 (Nat.le_refl _)
      replace hg := hg.below hbw8 (Nat.le_refl _)
      replace hp := hp.below hbw8 (Nat.le_refl _)
      replace sb := sb.trans (hbw8.mono sb.size)
      clear hbw8
      have hLd := hBp.lt
      obtain ⟨w8z, hzw8⟩ : ∃ w5, (w8.alloc (.cells #[.bool false, .slice none 0 0] 66)).alloc (.cells #[.bool false, .slice none 0 0] 66) = w5 := ⟨_, rfl⟩
      obtain ⟨⟨q0, q1, q2, q3, q4, q5⟩, w8b, hww8, hBd, hBu, hbz⟩ := boxes2 hzw8 (.bool dn) (.slice da dl dc) (.bool un) (.slice ua ul uc)
      replace hd := hd.below hbz (Nat.le_refl _)
      replace bx := bx.below hbz bx.lt
      replace by_ := by_.below hbz by_.lt
      replace bR := bR.below hbz bR.lt
      replace bg := bg.below hbz bg.lt
      replace hBp := hBp.below hbz hBp.lt
      replace hx := hx.below hbz (Nat.le_refl _)
      replace hy := hy.below hbz (Nat.le_refl _)
      replace hg := hg.below hbz (Nat.le_refl _)
      replace hp := hp.below hbz (Nat.le_refl _)
      replace sb := sb.trans (hbz.mono sb.size)
      clear hbz
      have HW := hide hww8
      clear hww8
      go_upto_region 9 with (fail)
      rw [HW.out]
      clear HW hzw8 q0 q1 q2 q3 q4 q5 hu hBu
      generalize hgd : w8.heap.size = Gd at hBd hLd ⊢
      clear hgd
      rw [HL.out] at hd
      obtain ⟨r0, r1, r2, r3, rf⟩ := bR.c4
      have rf0 := rf 0
      have rf1 := rf 1
      have rf2 := rf 2
      have rf3 := rf 3
      obtain ⟨d0, d1, -⟩ := hBd.c2
      obtain ⟨p0, p1, -⟩ := hBp.c2
      have hI := (RFrV.mk hp hd).st4 bR (.bool pn) (.slice pa pl pc) (.bool dn) (.slice da dl dc)
      obtain ⟨e4, e5, e6, e7, -⟩ := (bR.four (.bool pn) (.slice pa pl pc) (.bool dn) (.slice da dl dc)).c4
      go_wp2_with fail
      refine bodyPost_ret (v := .agg #[.bool pn, .slice pa pl pc, .bool dn, .slice da dl dc]) (by simp [results, Tryz.results36, go_sem, e4, e5, e6, e7]) rfl ?_
      rw [← HP.out]
      exact ⟨_, rfl, hI, set4b sb (by omega) _ _ _ _⟩

end Go.Proofs.YtphjffbldhhdiaaGreatDoor

namespace Go.Proofs.YtphjffbldhhdiaaGreatDoor
open Go.RowKit

set_option maxRecDepth 100000 in
set_option maxHeartbeats 6400000 in
theorem ROf2_any {a b : Int} {u : Value} (w : World) (hx : FrV w u a b) (hn : len a ≤ 1000000000) (hm : len b ≤ 1000000000) : Calls Tryz.prog 31 #[u] w (RFrPost w a (ben b)) := by
  generalize hP : RFrPost w a (ben b) = Post
  have HP := hide hP
  clear hP
  obtain ⟨xn, xa, xl, xk, xm, xb, xi, xj, rfl, hx1, hx2⟩ := FrV.parts hx
  obtain ⟨W, hW⟩ : ∃ W, ((w.alloc (.cells #[.bool xn, .slice xa xl xk, .bool xm, .slice xb xi xj] 39)).alloc (.cells #[.bool false, .slice none 0 0, .bool false, .slice none 0 0] 68)) = W := ⟨_, rfl⟩
  have bx : Blk W w.heap.size 39 #[.bool xn, .slice xa xl xk, .bool xm, .slice xb xi xj] := by rw [← hW]; exact (Blk.new w _ _).alloc _
  have bR : Blk W (w.heap.size + 1) 68 #[.bool false, .slice none 0 0, .bool false, .slice none 0 0] := by rw [← hW]; exact Blk.new_at _ _ _ (by simp)
  have sb : Below w.heap.size w W := by rw [← hW]; exact ((Below.refl w.heap.size w).alloc (Nat.le_refl _) _).alloc (by simp) _
  obtain ⟨cx0, cx1, cx2, cx3, -⟩ := bx.c4
  have hK : Kq w 68 (w.heap.size + 1) W := ⟨sb, by omega, _, _, _, _, _, _, _, _, bR⟩
  have HW := hide hW
  clear hW bx bR
  go_enter Tryz.func31, Tryz.ntmps31
  go_upto_region 1 with (fail)
  rw [HW.out]
  clear HW
  have hS1 : W.cell? ⟨w.heap.size, 0, none⟩ = some (.bool xn) ∧ W.cell? ⟨w.heap.size, 1, none⟩ = some (.slice xa xl xk) ∧ W.cell? ⟨w.heap.size, 2, none⟩ = some (.bool xm) ∧ W.cell? ⟨w.heap.size, 3, none⟩ = some (.slice xb xi xj) ∧ Kq w 68 (w.heap.size + 1) W := ⟨cx0, cx1, cx2, cx3, hK⟩
  have hWs := hS1.2.2.2.2.bel.size
  have hWR : w.heap.size + 1 < W.heap.size := by obtain ⟨_, _, _, _, _, _, _, _, h⟩ := hK.blk; exact h.lt
  go_cut [3] from 4 to 10 (fun v3 wc => ∃ g3 sn sa sl sk sm sb_ si sj, v3 = .pointer (some ⟨g3, 0, none⟩) ∧ w.heap.size + 1 < g3 ∧ Blk wc g3 68 #[.bool sn, .slice sa sl sk, .bool sm, .slice sb_ si sj] ∧ NumV wc (.agg #[.bool sn, .slice sa sl sk]) a ∧ NumV wc (.agg #[.bool sm, .slice sb_ si sj]) b ∧ wc.cell? ⟨w.heap.size, 0, none⟩ = some (.bool xn) ∧ wc.cell? ⟨w.heap.size, 1, none⟩ = some (.slice xa xl xk) ∧ wc.cell? ⟨w.heap.size, 2, none⟩ = some (.bool xm) ∧ wc.cell? ⟨w.heap.size, 3, none⟩ = some (.slice xb xi xj) ∧ Kq w 68 (w.heap.size + 1) wc)
  case first =>
    go_region_held3 (fun w' => w'.cell? ⟨w.heap.size, 0, none⟩ = some (.bool xn) ∧ w'.cell? ⟨w.heap.size, 1, none⟩ = some (.slice xa xl xk) ∧ w'.cell? ⟨w.heap.size, 2, none⟩ = some (.bool xm) ∧ w'.cell? ⟨w.heap.size, 3, none⟩ = some (.slice xb xi xj) ∧ Kq w 68 (w.heap.size + 1) w')
      (exact keepL4 hS1 (by repeat (first | with_reducible exact Below.refl _ _ | with_reducible refine bl_drew ?_ | with_reducible refine bl_alloc ?_ _ | with_reducible refine bl_set ?_ (by omega) _ _ | with_reducible refine bl_call ?_ (by with_reducible assumption))))
      (first
        | (go_at_call_of 62 (Value.agg #[.bool xn, .slice xa xl xk]); (with_reducible refine (ROf_any _ (hx1.below (by go_split_ands; exact Kq.bel (by assumption)) (Nat.le_refl _)) hn).mono ?_); rintro e wN ⟨r, rfl, hr, hb1⟩; obtain ⟨sn, sa, sl, sk, rfl⟩ := hr.parts; have hs1 := hb1.size; (try simp only [World.size_drew] at hs1); (try simp only [World.size_alloc] at hs1); (first | with_reducible replace hA := Blk.later hb1 hA | with_reducible replace hA := Blk.later hb1 (Blk.drew hA) | skip); (first | (have _t := hA) | (have hA := Blk.later hb1 (Blk.new _ _ _)) | (have hA := Blk.later hb1 (Blk.drew (Blk.new _ _ _))) | skip); (try (try simp only [World.size_alloc] at hA); obtain ⟨kA0, kA1, kA2, kA3, kAf⟩ := hA.c4; have kA4 := kAf 0; have kA5 := kAf 1; have kA6 := kAf 2; have kA7 := kAf 3; have kAl := hA.lt; clear kAf))
        | (go_at_call_of 62 (Value.agg #[.bool xm, .slice xb xi xj]); (with_reducible refine (ROf_any _ (hx2.below (by go_split_ands; exact Kq.bel (by assumption)) (Nat.le_refl _)) hm).mono ?_); rintro e wN ⟨r', rfl, hr', hb1⟩; obtain ⟨tn, ta, tl, tk, rfl⟩ := hr'.parts; have hs1 := hb1.size; (try simp only [World.size_drew] at hs1); (try simp only [World.size_alloc] at hs1); (first | with_reducible replace hA := Blk.later hb1 hA | with_reducible replace hA := Blk.later hb1 (Blk.drew hA) | skip); (first | (have _t := hA) | (have hA := Blk.later hb1 (Blk.new _ _ _)) | (have hA := Blk.later hb1 (Blk.drew (Blk.new _ _ _))) | skip); (try (try simp only [World.size_alloc] at hA); obtain ⟨kA0, kA1, kA2, kA3, kAf⟩ := hA.c4; have kA4 := kAf 0; have kA5 := kAf 1; have kA6 := kAf 2; have kA7 := kAf 3; have kAl := hA.lt; clear kAf)))
    all_goals
      go_wp2_with fail
      go_meet
      refine ⟨_, sn, sa, sl, sk, tn, ta, tl, tk, rfl, ?r6, ?r1, ?r2, ?r3, ?r5⟩
      case r6 => omega
      case r1 => repeat (first | with_reducible refine Blk.later (by with_reducible assumption) ?_ | with_reducible refine Blk.drew ?_ | with_reducible exact Blk.new _ _ _ | with_reducible exact Blk.new_at _ _ _ (World.size_alloc _ _).symm | with_reducible refine Blk.alloc ?_ _ | with_reducible refine Blk.four (p := .bool false) (q := .slice none 0 0) (r := .bool false) (s := .slice none 0 0) ?_ _ _ _ _ | with_reducible refine Blk.far ?_ (by simp only [ne_eq]; omega) _)
      case r2 => ((repeat (first | with_reducible assumption | with_reducible refine NumV.drewd ?_ | with_reducible refine NumV.allocd ?_ _ | with_reducible refine NumV.st4 ?_ (t := 68) (n := false) (a := none) (l := 0) (k := 0) (n' := false) (a' := none) (l' := 0) (k' := 0) ?_ _ _ _ _ | with_reducible refine NumV.later (by with_reducible assumption) ?_)); all_goals repeat (first | with_reducible refine Blk.later (by with_reducible assumption) ?_ | with_reducible refine Blk.drew ?_ | with_reducible exact Blk.new _ _ _ | with_reducible exact Blk.new_at _ _ _ (World.size_alloc _ _).symm | with_reducible refine Blk.alloc ?_ _ | with_reducible refine Blk.four (p := .bool false) (q := .slice none 0 0) (r := .bool false) (s := .slice none 0 0) ?_ _ _ _ _ | with_reducible refine Blk.far ?_ (by simp only [ne_eq]; omega) _))
      case r3 => ((repeat (first | with_reducible assumption | with_reducible refine NumV.drewd ?_ | with_reducible refine NumV.allocd ?_ _ | with_reducible refine NumV.st4 ?_ (t := 68) (n := false) (a := none) (l := 0) (k := 0) (n' := false) (a' := none) (l' := 0) (k' := 0) ?_ _ _ _ _ | with_reducible refine NumV.later (by with_reducible assumption) ?_)); all_goals repeat (first | with_reducible refine Blk.later (by with_reducible assumption) ?_ | with_reducible refine Blk.drew ?_ | with_reducible exact Blk.new _ _ _ | with_reducible exact Blk.new_at _ _ _ (World.size_alloc _ _).symm | with_reducible refine Blk.alloc ?_ _ | with_reducible refine Blk.four (p := .bool false) (q := .slice none 0 0) (r := .bool false) (s := .slice none 0 0) ?_ _ _ _ _ | with_reducible refine Blk.far ?_ (by simp only [ne_eq]; omega) _))
      case r5 => exact keepL4 hS1 (by repeat (first | with_reducible exact Below.refl _ _ | with_reducible refine bl_drew ?_ | with_reducible refine bl_alloc ?_ _ | with_reducible refine bl_set ?_ (by omega) _ _ | with_reducible refine bl_call ?_ (by with_reducible assumption)))
  case rest =>
    obtain ⟨g3, sn, sa, sl, sk, sm, sd, si, sj, rfl, hg3, hBa, ha, hb, hS⟩ := hcut
    clear hS1 cx0 cx1 cx2 cx3 hK hWs hWR sb hx hx1 hx2
    rename_i wc
    have hK := hS.2.2.2.2
    clear hS
    have hle := hK.le
    obtain ⟨_, _, _, _, _, _, _, _, bR⟩ := hK.blk
    have sb := hK.bel
    obtain ⟨s0, s1, s2, s3, sf⟩ := hBa.c4
    have sf2 := sf 2
    have sf3 := sf 3
    have hsl := hb.sign.2
    have n1 : w.heap.size + 1 ≠ g3 := by omega
    by_cases h0 : b = 0
    · have hi0 : si = 0 := by rw [hsl, h0]; rfl
      subst hi0
      have HB : Hid (ben b = 1) := hide (by rw [ben, if_pos h0])
      clear hsl h0 hb
      go_wp2_with fail
      refine (RInt_any 1 wc (by decide) (by decide)).mono ?_
      rintro e w1 ⟨r, rfl, hr, hb1⟩
      obtain ⟨tn, ta, tl, tk, rfl⟩ := hr.parts
      clear s0 s1 s2 s3 sf sf2 sf3 hK
      replace hBa := hBa.below hb1 hBa.lt
      replace bR := bR.below hb1 bR.lt
      replace ha := ha.below hb1 (Nat.le_refl _)
      replace sb := sb.trans (hb1.mono sb.size)
      obtain ⟨s0, s1, s2, s3, sf⟩ := hBa.c4
      have sf2 := sf 2
      have sf3 := sf 3
      have hBa2 := hBa.back (.bool tn) (.slice ta tl tk)
      have bR2 := (bR.far (p := ⟨g3, 2, none⟩) n1 (.bool tn)).far (p := ⟨g3, 3, none⟩) n1 (.slice ta tl tk)
      have ha2 := ha.stb hBa (.bool tn) (.slice ta tl tk)
      have hr2 := hr.stb hBa (.bool tn) (.slice ta tl tk)
      have sb2 := set2b (g := g3) sb (by omega) 2 3 (.bool tn) (.slice ta tl tk)
      go_upto_region 4 with (fail)
      generalize (w1.setCell ⟨g3, 2, none⟩ (.bool tn)).setCell ⟨g3, 3, none⟩ (.slice ta tl tk) = w2 at hBa2 bR2 ha2 hr2 sb2 ⊢
      clear s0 s1 s2 s3 sf sf2 sf3
      obtain ⟨r0, r1, r2, r3, rf⟩ := bR2.c4
      have rf0 := rf 0
      have rf1 := rf 1
      have rf2 := rf 2
      have rf3 := rf 3
      obtain ⟨s0, s1, s2, s3, -⟩ := hBa2.c4
      have hI := (RFrV.mk ha2 hr2).st4 bR2 (.bool sn) (.slice sa sl sk) (.bool tn) (.slice ta tl tk)
      obtain ⟨e4, e5, e6, e7, -⟩ := (bR2.four (.bool sn) (.slice sa sl sk) (.bool tn) (.slice ta tl tk)).c4
      go_wp2_with fail
      refine bodyPost_ret (v := .agg #[.bool sn, .slice sa sl sk, .bool tn, .slice ta tl tk]) (by simp [results, Tryz.results31, go_sem, e4, e5, e6, e7]) rfl ?_
      rw [← HP.out, HB.out]
      exact ⟨_, rfl, hI, set4b sb2 (by omega) _ _ _ _⟩
    · have hi0 : si ≠ 0 := by rw [hsl]; intro e; exact h0 (dlen_eq_zero.1 e)
      have e0 : ((si : Int) == 0) = false := beq_eq_false_iff_ne.2 (by omega)
      have e1 : decide (si = 0) = false := decide_eq_false hi0
      have HB : Hid (ben b = b) := hide (by rw [ben, if_neg h0])
      clear hsl h0 hi0 sf2 sf3 sf
      go_upto_region 4 with (fail)
      clear s0 s1 s2 s3
      obtain ⟨r0, r1, r2, r3, rf⟩ := bR.c4
      have rf0 := rf 0
      have rf1 := rf 1
      have rf2 := rf 2
      have rf3 := rf 3
      obtain ⟨s0, s1, s2, s3, -⟩ := hBa.c4
      have hI := (RFrV.mk ha hb).st4 bR (.bool sn) (.slice sa sl sk) (.bool sm) (.slice sd si sj)
      obtain ⟨e4, e5, e6, e7, -⟩ := (bR.four (.bool sn) (.slice sa sl sk) (.bool sm) (.slice sd si sj)).c4
      go_wp2_with fail
      refine bodyPost_ret (v := .agg #[.bool sn, .slice sa sl sk, .bool sm, .slice sd si sj]) (by simp [results, Tryz.results31, go_sem, e4, e5, e6, e7]) rfl ?_
      rw [← HP.out, HB.out]
      exact ⟨_, rfl, hI, set4b sb (by omega) _ _ _ _⟩

set_option maxRecDepth 100000 in
set_option maxHeartbeats 6400000 in
theorem RForm2_any {q : Rat} {u : Value} (w : World) (hx : RFracV w u q) (hn : dlen q.num ≤ 100000000000) (hm : dlen (q.den : Int) ≤ 100000000000) : Calls Tryz.prog 35 #[u] w (FracPost w q) := by
  generalize hP : FracPost w q = Post
  have HP := hide hP
  clear hP
  obtain ⟨xn, xa, xl, xk, xm, xb, xi, xj, rfl, hx1, hx2⟩ := RFrV.parts hx
  obtain ⟨W, hW⟩ : ∃ W, ((w.alloc (.cells #[.bool xn, .slice xa xl xk, .bool xm, .slice xb xi xj] 68)).alloc (.cells #[.bool false, .slice none 0 0, .bool false, .slice none 0 0] 39)) = W := ⟨_, rfl⟩
  have bx : Blk W w.heap.size 68 #[.bool xn, .slice xa xl xk, .bool xm, .slice xb xi xj] := by rw [← hW]; exact (Blk.new w _ _).alloc _
  have bR : Blk W (w.heap.size + 1) 39 #[.bool false, .slice none 0 0, .bool false, .slice none 0 0] := by rw [← hW]; exact Blk.new_at _ _ _ (by simp)
  have sb : Below w.heap.size w W := by rw [← hW]; exact ((Below.refl w.heap.size w).alloc (Nat.le_refl _) _).alloc (by simp) _
  obtain ⟨cx0, cx1, cx2, cx3, -⟩ := bx.c4
  have hK : Kq w 39 (w.heap.size + 1) W := ⟨sb, by omega, _, _, _, _, _, _, _, _, bR⟩
  have HW := hide hW
  clear hW
  go_enter Tryz.func35, Tryz.ntmps35
  go_upto_region 1 with (fail)
  rw [HW.out]
  clear HW
  clear hK cx0 cx1 cx2 cx3
  replace hx1 := hx1.below sb (Nat.le_refl _)
  replace hx2 := hx2.below sb (Nat.le_refl _)
  clear hx
  obtain ⟨x0, x1, x2, x3, -⟩ := bx.c4
  go_wp2_with fail
  refine (Form_any W hx1 hn).mono ?_
  rintro e w1 ⟨r, rfl, hr, hb1⟩
  obtain ⟨rn, ra, rl, rk, rfl⟩ := hr.parts
  clear x0 x1 x2 x3
  replace bx := bx.below hb1 bx.lt
  replace bR := bR.below hb1 bR.lt
  replace hx1 := hx1.below hb1 (Nat.le_refl _)
  replace hx2 := hx2.below hb1 (Nat.le_refl _)
  replace sb := sb.trans (hb1.mono sb.size)
  clear hb1
  have hGL := bR.lt
  obtain ⟨w3, hw3⟩ : ∃ w3, w1.alloc (.cells #[.bool rn, .slice ra rl rk, .bool false, .slice none 0 0] 39) = w3 := ⟨_, rfl⟩
  have bg : Blk w3 w1.heap.size 39 #[.bool rn, .slice ra rl rk, .bool false, .slice none 0 0] := by rw [← hw3]; exact Blk.new _ _ _
  have hb3 : Below w1.heap.size w1 w3 := by rw [← hw3]; exact (Below.refl _ _).alloc (Nat.le_refl _) _
  replace hr := hr.below hb3 (Nat.le_refl _)
  replace bx := bx.below hb3 bx.lt
  replace bR := bR.below hb3 bR.lt
  replace hx1 := hx1.below hb3 (Nat.le_refl _)
  replace hx2 := hx2.below hb3 (Nat.le_refl _)
  replace sb := sb.trans (hb3.mono sb.size)
  clear hb3
  have HW := hide hw3
  clear hw3
  go_upto_region 2 with (fail)
  rw [HW.out]
  clear HW
  generalize hGG : w1.heap.size = G at bg hGL ⊢
  clear hGG
  obtain ⟨x0, x1, x2, x3, -⟩ := bx.c4
  obtain ⟨C, hC⟩ : ∃ C, ordZ (q.den : Int) 1 = C := ⟨_, rfl⟩
  have HC0 : Hid ((C == 0) = decide (q.den = 1)) := hide (by rw [← hC]; unfold ordZ; by_cases h : q.den = 1 <;> simp [h]; omega)
  have HC := hide hC
  clear hC
  have d1 : Dm 1 := dm_len (show len 1 ≤ 1000000000 from Nat.le_trans (dg_len BB2 (show (1 : Nat) < BB ^ 1 by decide)) (by decide))
  have hsb := sb.drew
  have dm : Dm (q.den : Int) := hm
  go_cut [12] from 8 to 11 (fun v12 wc => v12 = .bool (C != 0) ∧ (wc.cell? ⟨w.heap.size, 0, none⟩ = some (.bool xn) ∧ wc.cell? ⟨w.heap.size, 1, none⟩ = some (.slice xa xl xk) ∧ wc.cell? ⟨w.heap.size, 2, none⟩ = some (.bool xm) ∧ wc.cell? ⟨w.heap.size, 3, none⟩ = some (.slice xb xi xj) ∧ Below w3.heap.size w3 wc))
  case first =>
    have hS1 := (Below.refl w3.heap.size w3).drew
    go_region_held3 (fun w' => w'.cell? ⟨w.heap.size, 0, none⟩ = some (.bool xn) ∧ w'.cell? ⟨w.heap.size, 1, none⟩ = some (.slice xa xl xk) ∧ w'.cell? ⟨w.heap.size, 2, none⟩ = some (.bool xm) ∧ w'.cell? ⟨w.heap.size, 3, none⟩ = some (.slice xb xi xj) ∧ Below w3.heap.size w3 w')
      (first | with_reducible exact keepZ4 (by assumption) hb1 | go_keep)
      (first
        | (go_at_call_of 59 (Value.int .i64 1); (with_reducible refine (RInt_any 1 _ (by decide) (by decide)).mono ?_); rintro e wN ⟨rA, rfl, hA, hb1⟩)
        | (go_at_call_of 61 rA; (with_reducible refine (RCmp_at (hx2.below (by go_split_ands; assumption) (Nat.le_refl _)) hA dm d1 (Below.refl _ _) HC.out).mono ?_); rintro e wN ⟨rfl, hb1⟩))
    rename_i hS
    go_wp2_with fail
    go_meet
    exact ⟨rfl, hS⟩
  case rest =>
    rename_i wc
    obtain ⟨rfl, -, -, -, -, hb4⟩ := hcut
    clear x0 x1 x2 x3 hsb
    replace bx := bx.below hb4 bx.lt
    replace bR := bR.below hb4 bR.lt
    replace bg := bg.below hb4 bg.lt
    replace hx1 := hx1.below hb4 (Nat.le_refl _)
    replace hx2 := hx2.below hb4 (Nat.le_refl _)
    replace hr := hr.below hb4 (Nat.le_refl _)
    replace sb := sb.trans (hb4.mono sb.size)
    clear hb4
    obtain ⟨x0, x1, x2, x3, -⟩ := bx.c4
    obtain ⟨g0, g1, g2, g3, gf⟩ := bg.c4
    have gf2 := gf 2
    have gf3 := gf 3
    have n1 : w.heap.size + 1 ≠ G := by omega
    by_cases h1 : q.den = 1
    · have e0 : (C == 0) = true := by rw [HC0.out, decide_eq_true h1]
      have e1 : (C != 0) = false := by simp only [bne, e0, Bool.not_true]
      have HU : Hid (und q = 0) := hide (by unfold und; rw [if_pos h1])
      clear e0 h1 x0 x1 x2 x3 gf gf2 gf3
      rw [e1]
      clear e1
      go_upto_region 4 with (fail)
      obtain ⟨r0, r1, r2, r3, rf⟩ := bR.c4
      have rf0 := rf 0
      have rf1 := rf 1
      have rf2 := rf 2
      have rf3 := rf 3
      have hI := (FrV.mk hr (IntV.zero wc)).st4 bR (.bool rn) (.slice ra rl rk) (.bool false) (.slice none 0 0)
      obtain ⟨e4, e5, e6, e7, -⟩ := (bR.four (.bool rn) (.slice ra rl rk) (.bool false) (.slice none 0 0)).c4
      go_wp2_with fail
      refine bodyPost_ret (v := .agg #[.bool rn, .slice ra rl rk, .bool false, .slice none 0 0]) (by simp [results, Tryz.results35, go_sem, e4, e5, e6, e7]) rfl ?_
      rw [← HP.out]
      exact ⟨_, rfl, by unfold FracV; rw [HU.out]; exact hI, set4b sb (by omega) _ _ _ _⟩
    · have e0 : (C == 0) = false := by rw [HC0.out, decide_eq_false h1]
      have e1 : (C != 0) = true := by simp only [bne, e0, Bool.not_false]
      have HU : Hid (und q = (q.den : Int)) := hide (by unfold und; rw [if_neg h1])
      clear e0 h1
      rw [e1]
      clear e1
      go_wp2_with fail
      refine (Form_any _ hx2 hm).mono ?_
      rintro e w5 ⟨s, rfl, hs, hb5⟩
      obtain ⟨tn, ta, tl, tk, rfl⟩ := hs.parts
      clear x0 x1 x2 x3 g0 g1 g2 g3 gf gf2 gf3
      replace bx := bx.below hb5 bx.lt
      replace bR := bR.below hb5 bR.lt
      replace bg := bg.below hb5 bg.lt
      replace hx1 := hx1.below hb5 (Nat.le_refl _)
      replace hx2 := hx2.below hb5 (Nat.le_refl _)
      replace hr := hr.below hb5 (Nat.le_refl _)
      replace sb := sb.trans (hb5.mono sb.size)
      clear hb5
      obtain ⟨g0, g1, g2, g3, gf⟩ := bg.c4
      have gf2 := gf 2
      have gf3 := gf 3
      have bg2 := bg.back (.bool tn) (.slice ta tl tk)
      have bR2 := (bR.far (p := ⟨G, 2, none⟩) n1 (.bool tn)).far (p := ⟨G, 3, none⟩) n1 (.slice ta tl tk)
      have hr2 := hr.stb bg (.bool tn) (.slice ta tl tk)
      have hs2 := hs.stb bg (.bool tn) (.slice ta tl tk)
      have sb2 := set2b (g := G) sb (by omega) 2 3 (.bool tn) (.slice ta tl tk)
      go_upto_region 4 with (fail)
      generalize (w5.setCell ⟨G, 2, none⟩ (.bool tn)).setCell ⟨G, 3, none⟩ (.slice ta tl tk) = w6 at bg2 bR2 hr2 hs2 sb2 ⊢
      clear g0 g1 g2 g3 gf gf2 gf3
      obtain ⟨g0, g1, g2, g3, -⟩ := bg2.c4
      obtain ⟨r0, r1, r2, r3, rf⟩ := bR2.c4
      have rf0 := rf 0
      have rf1 := rf 1
      have rf2 := rf 2
      have rf3 := rf 3
      have hI := (FrV.mk hr2 hs2).st4 bR2 (.bool rn) (.slice ra rl rk) (.bool tn) (.slice ta tl tk)
      obtain ⟨e4, e5, e6, e7, -⟩ := (bR2.four (.bool rn) (.slice ra rl rk) (.bool tn) (.slice ta tl tk)).c4
      go_wp2_with fail
      refine bodyPost_ret (v := .agg #[.bool rn, .slice ra rl rk, .bool tn, .slice ta tl tk]) (by simp [results, Tryz.results35, go_sem, e4, e5, e6, e7]) rfl ?_
      rw [← HP.out]
      exact ⟨_, rfl, by unfold FracV; rw [HU.out]; exact hI, set4b sb2 (by omega) _ _ _ _⟩

end Go.Proofs.YtphjffbldhhdiaaGreatDoor

namespace Go.Proofs.YtphjffbldhhdiaaGreatDoor
open Go.RowKit

/-- How great a fraction's integers may be, where the document reckons with them. -/
def Qr (q : Rat) : Prop := Qn 100000000 q
theorem Qn.r {m : Nat} {q : Rat} (h : Qn m q) (hk : m ≤ 100000000) : Qr q := Qn.mono h hk
theorem Qr.dm {p q : Rat} (hp : Qr p) (hq : Qr q) : Dm p.num ∧ Dm (p.den : Int) ∧ Dm (p.num * q.num) ∧ Dm ((p.den : Int) * (q.den : Int)) ∧ Dm (p.num * (q.den : Int)) ∧ Dm ((p.den : Int) * q.num) ∧ Dm (q.num * (p.den : Int)) ∧ Dm (p.num * (q.den : Int) + q.num * (p.den : Int)) := by
  obtain ⟨a1, a2⟩ := hp
  obtain ⟨b1, b2⟩ := hq
  have m1 := len_mul p.num q.num
  have m2 := len_mul (p.den : Int) (q.den : Int)
  have m3 := len_mul p.num (q.den : Int)
  have m4 := len_mul (p.den : Int) q.num
  have m5 := len_mul q.num (p.den : Int)
  have m6 := len_add (p.num * (q.den : Int)) (q.num * (p.den : Int))
  refine ⟨?_, ?_, ?_, ?_, ?_, ?_, ?_, ?_⟩ <;> exact dm_len (by omega)
theorem RFracV.parts {w : World} {v : Value} {q : Rat} (h : RFracV w v q) : ∃ (n1 : Bool) (a1 : Option Addr) (l1 k1 : Nat) (n2 : Bool) (a2 : Option Addr) (l2 k2 : Nat), v = .agg #[.bool n1, .slice a1 l1 k1, .bool n2, .slice a2 l2 k2] ∧ NumV w (.agg #[.bool n1, .slice a1 l1 k1]) q.num ∧ NumV w (.agg #[.bool n2, .slice a2 l2 k2]) (q.den : Int) := h
theorem sub_neg_iff (p q : Rat) : (p - q).num < 0 ↔ p < q := by
    have h4 : 0 ≤ (p - q).num ↔ 0 ≤ p - q := Rat.num_nonneg
    constructor
    · intro h
      have h5 : ¬ 0 ≤ p - q := fun e => by have := h4.2 e; omega
      grind
    · intro h
      have h5 : ¬ 0 ≤ (p - q).num := fun e => by have := h4.1 e; grind
      omega
theorem sub_pos_iff (p q : Rat) : 0 < (p - q).num ↔ q < p := by
    have h3 : (p - q).num = 0 ↔ p - q = 0 := Rat.num_eq_zero
    have h4 : 0 ≤ (p - q).num ↔ 0 ≤ p - q := Rat.num_nonneg
    constructor
    · intro h
      have h5 := h4.1 (by omega)
      have h6 : p - q ≠ 0 := fun e => by have := h3.2 e; omega
      grind
    · intro h
      have h5 := h4.2 (by grind)
      have h6 : (p - q).num ≠ 0 := fun e => by have := h3.1 e; grind
      omega
theorem ordQ_sub (p q : Rat) : ordZ (p + -q).num 0 = ordQ p q := by
  rw [ordQ_eq, ← Rat.sub_eq_add_neg]
  have h1 := sub_neg_iff p q
  have h2 := sub_pos_iff p q
  unfold ordZ
  simp only [h1, h2]

theorem RFracV.drewd {w : World} {v : Value} {q : Rat} (h : RFracV w v q) : RFracV w.drew v q := h
theorem RFracV.allocd {w : World} {v : Value} {q : Rat} (h : RFracV w v q) (o : Obj) : RFracV (w.alloc o) v q := h.below ((Below.refl _ _).alloc (Nat.le_refl _) _) (Nat.le_refl _)

set_option maxRecDepth 100000 in
set_option maxHeartbeats 6400000 in
theorem RMul2_any {p q : Rat} {u v : Value} (w : World) (hx : RFracV w u p) (hy : RFracV w v q) (hp : Qr p) (hq : Qr q) : Calls Tryz.prog 33 #[u, v] w (RFracPost w (p * q)) := by
  generalize hP : RFracPost w (p * q) = Post
  have HP := hide hP
  clear hP
  obtain ⟨xn, xa, xl, xk, xm, xb, xi, xj, rfl, hx1, hx2⟩ := RFracV.parts hx
  obtain ⟨yn, ya, yl, yk, ym, yb, yi, yj, rfl, hy1, hy2⟩ := RFracV.parts hy
  obtain ⟨sx, sd, sxx, sdd, sxd, sdx, syd, sad⟩ := Qr.dm hp hq
  obtain ⟨tx, td, -, -, -, -, -, -⟩ := Qr.dm hq hp
  obtain ⟨W, hW⟩ : ∃ W, (((w.alloc (.cells #[.bool xn, .slice xa xl xk, .bool xm, .slice xb xi xj] 68)).alloc (.cells #[.bool yn, .slice ya yl yk, .bool ym, .slice yb yi yj] 68)).alloc (.cells #[.bool false, .slice none 0 0, .bool false, .slice none 0 0] 68)) = W := ⟨_, rfl⟩
  have bx : Blk W w.heap.size 68 #[.bool xn, .slice xa xl xk, .bool xm, .slice xb xi xj] := by rw [← hW]; exact ((Blk.new w _ _).alloc _).alloc _
  have by_ : Blk W (w.heap.size + 1) 68 #[.bool yn, .slice ya yl yk, .bool ym, .slice yb yi yj] := by rw [← hW]; exact (Blk.new_at _ _ _ (by simp)).alloc _
  have bR : Blk W (w.heap.size + 1 + 1) 68 #[.bool false, .slice none 0 0, .bool false, .slice none 0 0] := by rw [← hW]; exact Blk.new_at _ _ _ (by simp)
  have sb : Below w.heap.size w W := by rw [← hW]; exact (((Below.refl w.heap.size w).alloc (Nat.le_refl _) _).alloc (by simp) _).alloc (by simp; omega) _
  obtain ⟨cx0, cx1, cx2, cx3, -⟩ := bx.c4
  obtain ⟨cy0, cy1, cy2, cy3, -⟩ := by_.c4
  have hK : Kq w 68 (w.heap.size + 1 + 1) W := ⟨sb, by omega, _, _, _, _, _, _, _, _, bR⟩
  have HW := hide hW
  clear hW bx by_ bR
  go_enter Tryz.func33, Tryz.ntmps33
  go_upto_region 1 with (fail)
  rw [HW.out]
  clear HW
  have hK1 := hK.drew
  have dx : w.heap.size ≠ w.heap.size + 1 + 1 := by omega
  have dy : w.heap.size + 1 ≠ w.heap.size + 1 + 1 := by omega
  go_region_held3 (fun w' => w'.cell? ⟨w.heap.size, 0, none⟩ = some (.bool xn) ∧ w'.cell? ⟨w.heap.size, 1, none⟩ = some (.slice xa xl xk) ∧ w'.cell? ⟨w.heap.size, 2, none⟩ = some (.bool xm) ∧ w'.cell? ⟨w.heap.size, 3, none⟩ = some (.slice xb xi xj) ∧ w'.cell? ⟨w.heap.size + 1, 0, none⟩ = some (.bool yn) ∧ w'.cell? ⟨w.heap.size + 1, 1, none⟩ = some (.slice ya yl yk) ∧ w'.cell? ⟨w.heap.size + 1, 2, none⟩ = some (.bool ym) ∧ w'.cell? ⟨w.heap.size + 1, 3, none⟩ = some (.slice yb yi yj) ∧ Kq w 68 (w.heap.size + 1 + 1) w')
    (first | with_reducible exact keepL8 (by assumption) hb1 | with_reducible exact keepQ8 dx dx dx dx dy dy dy dy _ _ _ _ (isB_of _) (isS_of _ _ _) (isB_of _) (isS_of _ _ _) (by assumption) | go_keep)
    (first
      | (go_at_call_of 64 (Value.agg #[.bool yn, .slice ya yl yk]); (with_reducible refine (RMul_any _ (hx1.below (by go_split_ands; exact Kq.bel (by assumption)) (Nat.le_refl _)) (hy1.below (by go_split_ands; exact Kq.bel (by assumption)) (Nat.le_refl _)) sx tx).mono ?_); rintro e wN ⟨rA, rfl, hA, hb1⟩)
      | (go_at_call_of 64 (Value.agg #[.bool ym, .slice yb yi yj]); (with_reducible refine (RMul_any _ (hx2.below (by go_split_ands; exact Kq.bel (by assumption)) (Nat.le_refl _)) (hy2.below (by go_split_ands; exact Kq.bel (by assumption)) (Nat.le_refl _)) sd td).mono ?_); rintro e wN ⟨rD, rfl, hD, hb1⟩; replace hA := hA.below hb1 (Nat.le_refl _))
      | (go_at_call_of 36 rD; (with_reducible refine (RMake2_any _ hA hD sxx sdd).mono ?_); rintro e wN ⟨rE, rfl, hE, hb1⟩; rw [mul_div] at hE; obtain ⟨rn, ra, rl, rk, rm, rb, ri, rj, rfl, -, -⟩ := RFracV.parts hE; obtain ⟨_, _, _, _, _, _, _, _, k0, k1, k2, k3, kf0, kf1, kf2, kf3, hX4⟩ := Kq.at (t := 68) (g := w.heap.size + 1 + 1) (w := w) (by go_split_ands; assumption) hb1))
  rename_i hS
  have hKf := hS.2.2.2.2.2.2.2.2
  have hI := RFrV.st4 hE hX4 (.bool rn) (.slice ra rl rk) (.bool rm) (.slice rb ri rj)
  obtain ⟨e0, e1, e2, e3, -⟩ := (hX4.four (.bool rn) (.slice ra rl rk) (.bool rm) (.slice rb ri rj)).c4
  go_wp2_with fail
  refine bodyPost_ret (v := Value.agg #[.bool rn, .slice ra rl rk, .bool rm, .slice rb ri rj]) (by simp [results, Tryz.results33, go_sem, e0, e1, e2, e3]) rfl ?_
  rw [← HP.out]
  exact ⟨_, rfl, hI, hKf.1⟩

set_option maxRecDepth 100000 in
set_option maxHeartbeats 6400000 in
theorem RAdd2_any {p q : Rat} {u v : Value} (w : World) (hx : RFracV w u p) (hy : RFracV w v q) (hp : Qr p) (hq : Qr q) : Calls Tryz.prog 32 #[u, v] w (RFracPost w (p + q)) := by
  generalize hP : RFracPost w (p + q) = Post
  have HP := hide hP
  clear hP
  obtain ⟨xn, xa, xl, xk, xm, xb, xi, xj, rfl, hx1, hx2⟩ := RFracV.parts hx
  obtain ⟨yn, ya, yl, yk, ym, yb, yi, yj, rfl, hy1, hy2⟩ := RFracV.parts hy
  obtain ⟨sx, sd, sxx, sdd, sxd, sdx, syd, sad⟩ := Qr.dm hp hq
  obtain ⟨tx, td, -, -, -, -, -, -⟩ := Qr.dm hq hp
  obtain ⟨W, hW⟩ : ∃ W, (((w.alloc (.cells #[.bool xn, .slice xa xl xk, .bool xm, .slice xb xi xj] 68)).alloc (.cells #[.bool yn, .slice ya yl yk, .bool ym, .slice yb yi yj] 68)).alloc (.cells #[.bool false, .slice none 0 0, .bool false, .slice none 0 0] 68)) = W := ⟨_, rfl⟩
  have bx : Blk W w.heap.size 68 #[.bool xn, .slice xa xl xk, .bool xm, .slice xb xi xj] := by rw [← hW]; exact ((Blk.new w _ _).alloc _).alloc _
  have by_ : Blk W (w.heap.size + 1) 68 #[.bool yn, .slice ya yl yk, .bool ym, .slice yb yi yj] := by rw [← hW]; exact (Blk.new_at _ _ _ (by simp)).alloc _
  have bR : Blk W (w.heap.size + 1 + 1) 68 #[.bool false, .slice none 0 0, .bool false, .slice none 0 0] := by rw [← hW]; exact Blk.new_at _ _ _ (by simp)
  have sb : Below w.heap.size w W := by rw [← hW]; exact (((Below.refl w.heap.size w).alloc (Nat.le_refl _) _).alloc (by simp) _).alloc (by simp; omega) _
  obtain ⟨cx0, cx1, cx2, cx3, -⟩ := bx.c4
  obtain ⟨cy0, cy1, cy2, cy3, -⟩ := by_.c4
  have hK : Kq w 68 (w.heap.size + 1 + 1) W := ⟨sb, by omega, _, _, _, _, _, _, _, _, bR⟩
  have HW := hide hW
  clear hW bx by_ bR
  go_enter Tryz.func32, Tryz.ntmps32
  go_upto_region 1 with (fail)
  rw [HW.out]
  clear HW
  have hK1 := hK.drew
  have dx : w.heap.size ≠ w.heap.size + 1 + 1 := by omega
  have dy : w.heap.size + 1 ≠ w.heap.size + 1 + 1 := by omega
  go_region_held3 (fun w' => w'.cell? ⟨w.heap.size, 0, none⟩ = some (.bool xn) ∧ w'.cell? ⟨w.heap.size, 1, none⟩ = some (.slice xa xl xk) ∧ w'.cell? ⟨w.heap.size, 2, none⟩ = some (.bool xm) ∧ w'.cell? ⟨w.heap.size, 3, none⟩ = some (.slice xb xi xj) ∧ w'.cell? ⟨w.heap.size + 1, 0, none⟩ = some (.bool yn) ∧ w'.cell? ⟨w.heap.size + 1, 1, none⟩ = some (.slice ya yl yk) ∧ w'.cell? ⟨w.heap.size + 1, 2, none⟩ = some (.bool ym) ∧ w'.cell? ⟨w.heap.size + 1, 3, none⟩ = some (.slice yb yi yj) ∧ Kq w 68 (w.heap.size + 1 + 1) w')
    (first | with_reducible exact keepL8 (by assumption) hb1 | with_reducible exact keepQ8 dx dx dx dx dy dy dy dy _ _ _ _ (isB_of _) (isS_of _ _ _) (isB_of _) (isS_of _ _ _) (by assumption) | go_keep)
    (first
      | (go_at_call_of 64 (Value.agg #[.bool xn, .slice xa xl xk]); (with_reducible refine (RMul_any _ (hx1.below (by go_split_ands; exact Kq.bel (by assumption)) (Nat.le_refl _)) (hy2.below (by go_split_ands; exact Kq.bel (by assumption)) (Nat.le_refl _)) sx td).mono ?_); rintro e wN ⟨rA, rfl, hA, hb1⟩)
      | (go_at_call_of 64 (Value.agg #[.bool yn, .slice ya yl yk]); (with_reducible refine (RMul_any _ (hy1.below (by go_split_ands; exact Kq.bel (by assumption)) (Nat.le_refl _)) (hx2.below (by go_split_ands; exact Kq.bel (by assumption)) (Nat.le_refl _)) tx sd).mono ?_); rintro e wN ⟨rB, rfl, hB, hb1⟩; replace hA := hA.below hb1 (Nat.le_refl _))
      | (go_at_call_of 63 rB; (with_reducible refine (RAdd_any _ hA hB sxd syd).mono ?_); rintro e wN ⟨rC, rfl, hC, hb1⟩)
      | (go_at_call_of 64 (Value.agg #[.bool xm, .slice xb xi xj]); (with_reducible refine (RMul_any _ (hx2.below (by go_split_ands; exact Kq.bel (by assumption)) (Nat.le_refl _)) (hy2.below (by go_split_ands; exact Kq.bel (by assumption)) (Nat.le_refl _)) sd td).mono ?_); rintro e wN ⟨rD, rfl, hD, hb1⟩; replace hC := hC.below hb1 (Nat.le_refl _))
      | (go_at_call_of 36 rD; (with_reducible refine (RMake2_any _ hC hD sad sdd).mono ?_); rintro e wN ⟨rE, rfl, hE, hb1⟩; rw [add_div] at hE; obtain ⟨rn, ra, rl, rk, rm, rb, ri, rj, rfl, -, -⟩ := RFracV.parts hE; obtain ⟨_, _, _, _, _, _, _, _, k0, k1, k2, k3, kf0, kf1, kf2, kf3, hX4⟩ := Kq.at (t := 68) (g := w.heap.size + 1 + 1) (w := w) (by go_split_ands; assumption) hb1))
  rename_i hS
  have hKf := hS.2.2.2.2.2.2.2.2
  have hI := RFrV.st4 hE hX4 (.bool rn) (.slice ra rl rk) (.bool rm) (.slice rb ri rj)
  obtain ⟨e0, e1, e2, e3, -⟩ := (hX4.four (.bool rn) (.slice ra rl rk) (.bool rm) (.slice rb ri rj)).c4
  go_wp2_with fail
  refine bodyPost_ret (v := Value.agg #[.bool rn, .slice ra rl rk, .bool rm, .slice rb ri rj]) (by simp [results, Tryz.results32, go_sem, e0, e1, e2, e3]) rfl ?_
  rw [← HP.out]
  exact ⟨_, rfl, hI, hKf.1⟩

set_option maxRecDepth 100000 in
set_option maxHeartbeats 6400000 in
theorem RNeg2_any {p : Rat} {u : Value} (w : World) (hx : RFracV w u p) (hp : Qr p) : Calls Tryz.prog 60 #[u] w (RFracPost w (-p)) := by
  generalize hP : RFracPost w (-p) = Post
  have HP := hide hP
  clear hP
  obtain ⟨sx, sd, -, -, -, -, -, -⟩ := Qr.dm hp hp
  obtain ⟨xn, xa, xl, xk, xm, xb, xi, xj, rfl, hx1, hx2⟩ := RFracV.parts hx
  obtain ⟨W, hW⟩ : ∃ W, ((w.alloc (.cells #[.bool xn, .slice xa xl xk, .bool xm, .slice xb xi xj] 68)).alloc (.cells #[.bool false, .slice none 0 0, .bool false, .slice none 0 0] 68)) = W := ⟨_, rfl⟩
  have bx : Blk W w.heap.size 68 #[.bool xn, .slice xa xl xk, .bool xm, .slice xb xi xj] := by rw [← hW]; exact (Blk.new w _ _).alloc _
  have bR : Blk W (w.heap.size + 1) 68 #[.bool false, .slice none 0 0, .bool false, .slice none 0 0] := by rw [← hW]; exact Blk.new_at _ _ _ (by simp)
  have sb : Below w.heap.size w W := by rw [← hW]; exact ((Below.refl w.heap.size w).alloc (Nat.le_refl _) _).alloc (by simp) _
  obtain ⟨cx0, cx1, cx2, cx3, -⟩ := bx.c4
  have hK : Kq w 68 (w.heap.size + 1) W := ⟨sb, by omega, _, _, _, _, _, _, _, _, bR⟩
  have HW := hide hW
  clear hW bx bR
  go_enter Tryz.func60, Tryz.ntmps60
  go_upto_region 1 with (fail)
  rw [HW.out]
  clear HW
  have hK1 := hK.drew
  have dx : w.heap.size ≠ w.heap.size + 1 := by omega
  go_region_held3 (fun w' => w'.cell? ⟨w.heap.size, 0, none⟩ = some (.bool xn) ∧ w'.cell? ⟨w.heap.size, 1, none⟩ = some (.slice xa xl xk) ∧ w'.cell? ⟨w.heap.size, 2, none⟩ = some (.bool xm) ∧ w'.cell? ⟨w.heap.size, 3, none⟩ = some (.slice xb xi xj) ∧ Kq w 68 (w.heap.size + 1) w')
    (first | with_reducible exact keepL4 (by assumption) hb1 | with_reducible exact keepQ4 dx dx dx dx _ _ _ _ (isB_of _) (isS_of _ _ _) (isB_of _) (isS_of _ _ _) (by assumption) | go_keep)
    (first
      | (go_at_call_of 66 (Value.agg #[.bool xn, .slice xa xl xk]); (with_reducible refine (RNeg_any _ (hx1.below (by go_split_ands; exact Kq.bel (by assumption)) (Nat.le_refl _)) sx).mono ?_); rintro e wN ⟨rA, rfl, hA, hb1⟩; obtain ⟨rn, ra, rl, rk, rfl⟩ := hA.parts; have hE : RFracV _ _ (-p) := (by unfold RFracV; rw [Rat.neg_num, Rat.neg_den]; exact RFrV.mk hA (hx2.below (by first | exact (Kq.below (by go_split_ands; assumption) hb1).bel) (Nat.le_refl _))); obtain ⟨_, _, _, _, _, _, _, _, k0, k1, k2, k3, kf0, kf1, kf2, kf3, hX4⟩ := Kq.at (t := 68) (g := w.heap.size + 1) (w := w) (by go_split_ands; assumption) hb1))
  rename_i hS
  have hKf := hS.2.2.2.2
  have hI := RFrV.st4 hE hX4 (.bool rn) (.slice ra rl rk) (.bool xm) (.slice xb xi xj)
  obtain ⟨e0, e1, e2, e3, -⟩ := (hX4.four (.bool rn) (.slice ra rl rk) (.bool xm) (.slice xb xi xj)).c4
  go_wp2_with fail
  refine bodyPost_ret (v := .agg #[.bool rn, .slice ra rl rk, .bool xm, .slice xb xi xj]) (by simp [results, Tryz.results60, go_sem, e0, e1, e2, e3]) rfl ?_
  rw [← HP.out]
  exact ⟨_, rfl, hI, hKf.1⟩

set_option maxRecDepth 100000 in
set_option maxHeartbeats 6400000 in
theorem RCmp2_any {p q : Rat} {u v : Value} (w : World) (hx : RFracV w u p) (hy : RFracV w v q) (hp : Qr p) (hq : Qr q) : Calls Tryz.prog 30 #[u, v] w fun e w' => e = .returned (.int .i64 (ordQ p q)) ∧ Below w.heap.size w w' := by
  generalize hr : ordQ p q = r
  have HR : Hid (ordZ (p + -q).num 0 = r) := hide (by rw [ordQ_sub]; exact hr)
  clear hr
  have hnq : Qr (-q) := Qn.neg hq
  have hpz : Dm (p + -q).num := by rw [← add_div]; exact (Qr.dm hp hnq).2.2.2.2.2.2.2.le (divInt_num_le _ _)
  have d0 : Dm 0 := dm_len (by decide)
  obtain ⟨xn, xa, xl, xk, xm, xb, xi, xj, rfl, hx1, hx2⟩ := RFracV.parts hx
  obtain ⟨yn, ya, yl, yk, ym, yb, yi, yj, rfl, hy1, hy2⟩ := RFracV.parts hy
  obtain ⟨sx, sd, sxx, sdd, sxd, sdx, syd, sad⟩ := Qr.dm hp hq
  obtain ⟨tx, td, -, -, -, -, -, -⟩ := Qr.dm hq hp
  obtain ⟨W, hW⟩ : ∃ W, ((w.alloc (.cells #[.bool xn, .slice xa xl xk, .bool xm, .slice xb xi xj] 68)).alloc (.cells #[.bool yn, .slice ya yl yk, .bool ym, .slice yb yi yj] 68)) = W := ⟨_, rfl⟩
  have bx : Blk W w.heap.size 68 #[.bool xn, .slice xa xl xk, .bool xm, .slice xb xi xj] := by rw [← hW]; exact (Blk.new w _ _).alloc _
  have by_ : Blk W (w.heap.size + 1) 68 #[.bool yn, .slice ya yl yk, .bool ym, .slice yb yi yj] := by rw [← hW]; exact Blk.new_at _ _ _ (by simp)
  have sb : Below w.heap.size w W := by rw [← hW]; exact ((Below.refl w.heap.size w).alloc (Nat.le_refl _) _).alloc (by simp) _
  obtain ⟨cx0, cx1, cx2, cx3, -⟩ := bx.c4
  obtain ⟨cy0, cy1, cy2, cy3, -⟩ := by_.c4
  have HW := hide hW
  clear hW bx by_
  go_enter Tryz.func30, Tryz.ntmps30
  go_upto_region 1 with (fail)
  rw [HW.out]
  clear HW
  have hS1 : W.cell? ⟨w.heap.size, 0, none⟩ = some (.bool xn) ∧ W.cell? ⟨w.heap.size, 1, none⟩ = some (.slice xa xl xk) ∧ W.cell? ⟨w.heap.size, 2, none⟩ = some (.bool xm) ∧ W.cell? ⟨w.heap.size, 3, none⟩ = some (.slice xb xi xj) ∧ W.cell? ⟨w.heap.size + 1, 0, none⟩ = some (.bool yn) ∧ W.cell? ⟨w.heap.size + 1, 1, none⟩ = some (.slice ya yl yk) ∧ W.cell? ⟨w.heap.size + 1, 2, none⟩ = some (.bool ym) ∧ W.cell? ⟨w.heap.size + 1, 3, none⟩ = some (.slice yb yi yj) ∧ Below w.heap.size w W := ⟨cx0, cx1, cx2, cx3, cy0, cy1, cy2, cy3, sb⟩
  have hWs := sb.size
  go_cut [5] from 6 to 9 (fun v5 wc => ∃ g5 sn sa sl sk sm sb_ si sj, v5 = .pointer (some ⟨g5, 0, none⟩) ∧ Blk wc g5 68 #[.bool sn, .slice sa sl sk, .bool sm, .slice sb_ si sj] ∧ NumV wc (.agg #[.bool sn, .slice sa sl sk]) (p + -q).num ∧ Below w.heap.size w wc)
  case first =>
    go_region_held3 (fun w' => w'.cell? ⟨w.heap.size, 0, none⟩ = some (.bool xn) ∧ w'.cell? ⟨w.heap.size, 1, none⟩ = some (.slice xa xl xk) ∧ w'.cell? ⟨w.heap.size, 2, none⟩ = some (.bool xm) ∧ w'.cell? ⟨w.heap.size, 3, none⟩ = some (.slice xb xi xj) ∧ w'.cell? ⟨w.heap.size + 1, 0, none⟩ = some (.bool yn) ∧ w'.cell? ⟨w.heap.size + 1, 1, none⟩ = some (.slice ya yl yk) ∧ w'.cell? ⟨w.heap.size + 1, 2, none⟩ = some (.bool ym) ∧ w'.cell? ⟨w.heap.size + 1, 3, none⟩ = some (.slice yb yi yj) ∧ Below w.heap.size w w')
      (exact keepZ8 hS1 (by repeat (first | with_reducible exact Below.refl _ _ | with_reducible refine bl_drew ?_ | with_reducible refine bl_alloc ?_ _ | with_reducible refine bl_set ?_ (by omega) _ _ | with_reducible refine bl_call ?_ (by with_reducible assumption))))
      (first
        | (go_at_call_of 60 (Value.agg #[.bool yn, .slice ya yl yk, .bool ym, .slice yb yi yj]); (with_reducible refine (RNeg2_any _ (hy.below (by go_split_ands; assumption) (Nat.le_refl _)) hq).mono ?_); rintro e wN ⟨rA, rfl, hA0, hb1⟩; have hs1 := hb1.size; (try simp only [World.size_drew] at hs1); (try simp only [World.size_alloc] at hs1); (first | with_reducible replace hA := Blk.later hb1 hA | with_reducible replace hA := Blk.later hb1 (Blk.drew hA) | skip); (first | (have _t := hA) | (have hA := Blk.later hb1 (Blk.new _ _ _)) | (have hA := Blk.later hb1 (Blk.drew (Blk.new _ _ _))) | skip); (try (try simp only [World.size_alloc] at hA); obtain ⟨kA0, kA1, kA2, kA3, kAf⟩ := hA.c4; have kA4 := kAf 0; have kA5 := kAf 1; have kA6 := kAf 2; have kA7 := kAf 3; have kAl := hA.lt; clear kAf))
        | (go_at_call_of 32 rA; (with_reducible refine (RAdd2_any _ (hx.below (by go_split_ands; assumption) (Nat.le_refl _)) (by repeat (first | with_reducible assumption | with_reducible refine RFracV.allocd ?_ _ | with_reducible refine RFracV.drewd ?_)) hp hnq).mono ?_); rintro e wN ⟨rB, rfl, hB0, hb1⟩; obtain ⟨sn, sa, sl, sk, sm, sd_, si, sj, rfl, hs1, hs2⟩ := RFracV.parts hB0; have hs1 := hb1.size; (try simp only [World.size_drew] at hs1); (try simp only [World.size_alloc] at hs1); (first | with_reducible replace hA := Blk.later hb1 hA | with_reducible replace hA := Blk.later hb1 (Blk.drew hA) | skip); (first | (have _t := hA) | (have hA := Blk.later hb1 (Blk.new _ _ _)) | (have hA := Blk.later hb1 (Blk.drew (Blk.new _ _ _))) | skip); (try (try simp only [World.size_alloc] at hA); obtain ⟨kA0, kA1, kA2, kA3, kAf⟩ := hA.c4; have kA4 := kAf 0; have kA5 := kAf 1; have kA6 := kAf 2; have kA7 := kAf 3; have kAl := hA.lt; clear kAf)))
    all_goals
      go_wp2_with fail
      go_meet
      refine ⟨_, sn, sa, sl, sk, sm, sd_, si, sj, rfl, ?r1, ?r2, ?r5⟩
      case r1 => repeat (first | with_reducible refine Blk.later (by with_reducible assumption) ?_ | with_reducible refine Blk.drew ?_ | with_reducible exact Blk.new _ _ _ | with_reducible exact Blk.new_at _ _ _ (World.size_alloc _ _).symm | with_reducible refine Blk.alloc ?_ _ | with_reducible refine Blk.four (p := .bool false) (q := .slice none 0 0) (r := .bool false) (s := .slice none 0 0) ?_ _ _ _ _ | with_reducible refine Blk.far ?_ (by simp only [ne_eq]; omega) _)
      case r2 => ((repeat (first | with_reducible assumption | with_reducible refine NumV.drewd ?_ | with_reducible refine NumV.allocd ?_ _ | with_reducible refine NumV.st4 ?_ (t := 68) (n := false) (a := none) (l := 0) (k := 0) (n' := false) (a' := none) (l' := 0) (k' := 0) ?_ _ _ _ _ | with_reducible refine NumV.later (by with_reducible assumption) ?_)); all_goals repeat (first | with_reducible refine Blk.later (by with_reducible assumption) ?_ | with_reducible refine Blk.drew ?_ | with_reducible exact Blk.new _ _ _ | with_reducible exact Blk.new_at _ _ _ (World.size_alloc _ _).symm | with_reducible refine Blk.alloc ?_ _ | with_reducible refine Blk.four (p := .bool false) (q := .slice none 0 0) (r := .bool false) (s := .slice none 0 0) ?_ _ _ _ _ | with_reducible refine Blk.far ?_ (by simp only [ne_eq]; omega) _))
      case r5 => exact (keepZ8 hS1 (by repeat (first | with_reducible exact Below.refl _ _ | with_reducible refine bl_drew ?_ | with_reducible refine bl_alloc ?_ _ | with_reducible refine bl_set ?_ (by omega) _ _ | with_reducible refine bl_call ?_ (by with_reducible assumption)))).2.2.2.2.2.2.2.2
  case rest =>
    obtain ⟨g5, sn, sa, sl, sk, sm, sd_, si, sj, rfl, hBa, ha, sbc⟩ := hcut
    clear hS1 cx0 cx1 cx2 cx3 cy0 cy1 cy2 cy3 hWs sb hx hx1 hx2 hy hy1 hy2
    rename_i wc
    obtain ⟨s0, s1, -⟩ := hBa.c4
    replace ha := ha.drewd
    have sbd := sbc.drew
    have hKd : wc.drew.cell? ⟨g5, 0, none⟩ = some (.bool sn) ∧ wc.drew.cell? ⟨g5, 1, none⟩ = some (.slice sa sl sk) ∧ Below w.heap.size w wc.drew := ⟨s0, s1, sbd⟩
    go_upto_region 2 with (fail)
    go_region_held3 (fun w' => w'.cell? ⟨g5, 0, none⟩ = some (.bool sn) ∧ w'.cell? ⟨g5, 1, none⟩ = some (.slice sa sl sk) ∧ Below w.heap.size w w')
      (first | with_reducible exact keepZ2 (by assumption) hb1 | go_keep)
      (first
        | (go_at_call_of 59 (Value.int .i64 0); (with_reducible refine (RInt_any 0 _ (by decide) (by decide)).mono ?_); rintro e wN ⟨rC, rfl, hC, hb1⟩; replace ha := ha.below hb1 (Nat.le_refl _))
        | (go_at_call_of 61 rC; (with_reducible refine (RCmp_at ha hC hpz d0 (Below.refl _ _) HR.out).mono ?_); rintro e wN ⟨rfl, hb1⟩))
    rename_i hS
    have hB := hS.2.2
    go_wp2_with fail
    go_ret
    exact ⟨rfl, hB⟩

end Go.Proofs.YtphjffbldhhdiaaGreatDoor

namespace Go.Proofs.YtphjffbldhhdiaaGreatDoor
open Go.RowKit

set_option maxRecDepth 100000 in
set_option maxHeartbeats 6400000 in
theorem Same2_any {a b c d : Int} {u v : Value} (w : World) (hx : FrV w u a b) (hy : FrV w v c d) (ha : Sm a) (hb : Sm b) : Calls Tryz.prog 18 #[u, v] w fun e w' => e = .returned (.bool (decide (a = c ∧ b = d))) ∧ Below w.heap.size w w' := by
  generalize hr : decide (a = c ∧ b = d) = r
  have HR := hide hr
  clear hr
  obtain ⟨xn, xa, xl, xk, xm, xb, xi, xj, rfl, hx1, hx2⟩ := FrV.parts hx
  obtain ⟨yn, ya, yl, yk, ym, yb, yi, yj, rfl, hy1, hy2⟩ := FrV.parts hy
  obtain ⟨W, hW⟩ : ∃ W, ((w.alloc (.cells #[.bool xn, .slice xa xl xk, .bool xm, .slice xb xi xj] 39)).alloc (.cells #[.bool yn, .slice ya yl yk, .bool ym, .slice yb yi yj] 39)) = W := ⟨_, rfl⟩
  have bx : Blk W w.heap.size 39 #[.bool xn, .slice xa xl xk, .bool xm, .slice xb xi xj] := by rw [← hW]; exact (Blk.new w _ _).alloc _
  have by_ : Blk W (w.heap.size + 1) 39 #[.bool yn, .slice ya yl yk, .bool ym, .slice yb yi yj] := by rw [← hW]; exact Blk.new_at _ _ _ (by simp)
  have sb : Below w.heap.size w W := by rw [← hW]; exact ((Below.refl w.heap.size w).alloc (Nat.le_refl _) _).alloc (by simp) _
  obtain ⟨cx0, cx1, cx2, cx3, -⟩ := bx.c4
  obtain ⟨cy0, cy1, cy2, cy3, -⟩ := by_.c4
  have HW := hide hW
  clear hW
  go_enter Tryz.func18, Tryz.ntmps18
  go_upto_region 1 with (fail)
  rw [HW.out]
  clear HW
  go_wp2_with fail
  refine (Same_any W (hx1.below sb (Nat.le_refl _)) (hy1.below sb (Nat.le_refl _)) ha).mono ?_
  rintro e w1 ⟨rfl, hb1⟩
  by_cases h1 : a = c
  · have e1 := decide_eq_true h1
    replace bx := bx.below hb1 bx.lt
    replace by_ := by_.below hb1 by_.lt
    replace sb := sb.trans (hb1.mono sb.size)
    have HV : Hid (decide (b = d) = r) := hide (by rw [← HR.out]; simp [h1])
    clear h1 cx0 cx1 cx2 cx3 cy0 cy1 cy2 cy3 hb1
    obtain ⟨cx0, cx1, cx2, cx3, -⟩ := bx.c4
    obtain ⟨cy0, cy1, cy2, cy3, -⟩ := by_.c4
    go_wp2_with fail
    refine (Same_any w1 (hx2.below sb (Nat.le_refl _)) (hy2.below sb (Nat.le_refl _)) hb).mono ?_
    rintro e w2 ⟨rfl, hb2⟩
    clear e1
    rw [HV.out]
    go_wp2_with fail
    go_ret
    exact ⟨rfl, sb.trans (hb2.mono sb.size)⟩
  · have e1 := decide_eq_false h1
    have HV : Hid (r = false) := hide (by rw [← HR.out]; simp [h1])
    clear h1 cx0 cx1 cx2 cx3 cy0 cy1 cy2 cy3
    go_wp2_with fail
    go_ret
    exact ⟨by rw [HV.out]; rfl, sb.trans (hb1.mono sb.size)⟩

theorem und_inj {p q : Rat} : (p.num = q.num ∧ und p = und q) ↔ p = q := by
  constructor
  · rintro ⟨h1, h2⟩
    refine Rat.ext h1 ?_
    have h3 := ben_und p
    have h4 := ben_und q
    rw [h2] at h3
    omega
  · rintro rfl; exact ⟨rfl, rfl⟩
/-- Two fractions by their values. -/
theorem Same3_any {p q : Rat} {u v : Value} (w : World) (hx : FracV w u p) (hy : FracV w v q) (hp : Qz p) : Calls Tryz.prog 18 #[u, v] w fun e w' => e = .returned (.bool (decide (p = q))) ∧ Below w.heap.size w w' := by
  obtain ⟨s1, -, s2, -⟩ := Qz.sm hp hp
  have h := Same2_any w hx hy s1 s2
  rwa [show decide (p.num = q.num ∧ und p = und q) = decide (p = q) from decide_eq_decide.2 und_inj] at h
theorem Same3_true {c : World} {p q : Rat} {u v : Value} (hx : FracV c u p) (hy : FracV c v q) (e : p = q) (hp : Qz p) : Calls Tryz.prog 18 #[u, v] c fun e w' => e = .returned (.bool true) ∧ Below c.heap.size c w' := by
  have h := Same3_any c hx hy hp
  rwa [decide_eq_true e] at h

end Go.Proofs.YtphjffbldhhdiaaGreatDoor

namespace Go.Proofs.YtphjffbldhhdiaaGreatDoor
open Go.RowKit

theorem FracV.fr {w : World} {v : Value} {q : Rat} (h : FracV w v q) : FrV w v q.num (und q) := h
set_option maxRecDepth 100000 in
set_option maxHeartbeats 3200000 in
theorem RRight2_any (r s : Raw) (w : World) (hr : RawOk w r) (hs : RawOk w s) (hl : r.ds.length ≤ 1000000000) (hk : s.ds.length ≤ 1000000000) :
    Calls Tryz.prog 12 #[.agg #[.bool r.neg, .slice r.at_ r.ds.length r.cap, .bool s.neg, .slice s.at_ s.ds.length s.cap]] w fun e w' => e = .returned (.bool (frightB r s)) ∧ Below w.heap.size w w' := by
  generalize hP : (fun (e : Ending) (w' : World) => e = .returned (.bool (frightB r s)) ∧ Below w.heap.size w w') = Post
  have HP := hide hP
  clear hP
  obtain ⟨W, hW⟩ : ∃ W, w.alloc (.cells #[.bool r.neg, .slice r.at_ r.ds.length r.cap, .bool s.neg, .slice s.at_ s.ds.length s.cap] 39) = W := ⟨_, rfl⟩
  have bx : Blk W w.heap.size 39 #[.bool r.neg, .slice r.at_ r.ds.length r.cap, .bool s.neg, .slice s.at_ s.ds.length s.cap] := by rw [← hW]; exact Blk.new w _ _
  have sb : Below w.heap.size w W := by rw [← hW]; exact (Below.refl w.heap.size w).alloc (Nat.le_refl _) _
  have hr0 := hr.below sb (Nat.le_refl _)
  have hs0 := hs.below sb (Nat.le_refl _)
  have HW := hide hW
  clear hW
  go_enter Tryz.func12, Tryz.ntmps12
  go_upto_region 1 with (fail)
  rw [HW.out]
  clear HW
  obtain ⟨x0, x1, x2, x3, -⟩ := bx.c4
  have HF : Hid (frightB r s = (rightB r.neg r.ds && (rightB s.neg s.ds && (!s.neg && (s.ds.isEmpty || (!decide (val BB s.ds = 1) && decide (Nat.gcd (val BB r.ds) (val BB s.ds) = 1))))))) := hide rfl
  go_wp2_with fail
  refine (RRight_any r.neg r.at_ r.cap r.ds W hr0.dig (by omega)).mono ?_
  rintro e w1 ⟨rfl, hb1⟩
  replace bx := bx.below hb1 bx.lt
  replace sb := sb.trans (hb1.mono sb.size)
  replace hs0 := hs0.below hb1 (Nat.le_refl _)
  replace hr0 := hr0.below hb1 (Nat.le_refl _)
  clear x0 x1 x2 x3 hb1
  cases h1 : rightB r.neg r.ds with
  | false =>
    have HV : Hid (frightB r s = false) := hide (by rw [HF.out, h1]; rfl)
    clear h1
    go_wp2_with fail
    rw [← HP.out]
    exact ⟨by rw [HV.out]; rfl, sb⟩
  | true =>
    obtain ⟨x0, x1, x2, x3, -⟩ := bx.c4
    have H1 := hide h1
    clear h1
    go_wp2_with fail
    refine (RRight_any s.neg s.at_ s.cap s.ds w1 hs0.dig (by omega)).mono ?_
    rintro e w2 ⟨rfl, hb2⟩
    replace bx := bx.below hb2 bx.lt
    replace sb := sb.trans (hb2.mono sb.size)
    replace hs0 := hs0.below hb2 (Nat.le_refl _)
    replace hr0 := hr0.below hb2 (Nat.le_refl _)
    clear x0 x1 x2 x3 hb2
    cases h2 : rightB s.neg s.ds with
    | false =>
      have HV : Hid (frightB r s = false) := hide (by rw [HF.out, h2, H1.out]; rfl)
      clear h2
      go_wp2_with fail
      rw [← HP.out]
      exact ⟨by rw [HV.out]; rfl, sb⟩
    | true =>
      obtain ⟨z, hz1, hz2⟩ := rightB_val H1.out
      obtain ⟨y, hy1, hy2⟩ := rightB_val h2
      have H2 := hide h2
      have hiz : IntV w2 (.agg #[.bool r.neg, .slice r.at_ r.ds.length r.cap]) z := ⟨r.at_, r.cap, by rw [hz1, hz2], by rw [← hz2]; exact hr.fit, by rw [← hz2]; exact hr0.dig⟩
      have hiy : IntV w2 (.agg #[.bool s.neg, .slice s.at_ s.ds.length s.cap]) y := ⟨s.at_, s.cap, by rw [hy1, hy2], by rw [← hy2]; exact hs.fit, by rw [← hy2]; exact hs0.dig⟩
      have sz : Sm z := by unfold Sm len; rw [← hz2]; omega
      have sy : Sm y := by unfold Sm len; rw [← hy2]; omega
      have HZ : Hid (val BB r.ds = z.natAbs) := hide (by rw [hz2, dg_val BB2])
      have HY : Hid (val BB s.ds = y.natAbs) := hide (by rw [hy2, dg_val BB2])
      have HN : Hid (s.neg = decide (y < 0)) := hide hy1
      have HZ1 : Hid (r.neg = decide (z < 0)) := hide hz1
      have HZ2 : Hid (r.ds = dg BB z.natAbs) := hide hz2
      have HZ4 : Hid (s.ds = dg BB y.natAbs) := hide hy2
      have HE : Hid (s.ds.isEmpty = decide (s.ds.length = 0)) := hide (by cases s.ds <;> rfl)
      clear h2 hz1 hz2 hy1 hy2 hr hs hr0 hs0
      have hLL : s.ds.length ≤ 1000000000 := hk
      have hKK : r.ds.length ≤ 1000000000 := hl
      generalize hgl : s.ds.length = l at *
      generalize hgk : r.ds.length = k at *
      have HGL := hide hgl
      have HGK := hide hgk
      clear hgl hgk
      obtain ⟨x0, x1, x2, x3, -⟩ := bx.c4
      cases hn : s.neg with
      | true =>
        rw [hn] at x2
        have HV : Hid (frightB r s = false) := hide (by rw [HF.out, hn]; simp)
        clear hn
        go_wp2_with fail
        rw [← HP.out]
        exact ⟨by rw [HV.out]; rfl, sb⟩
      | false =>
        rw [hn] at x2 hiy bx
        have HNF := hide hn
        clear hn
        have hyp : 0 ≤ y := by
          have h := HN.out
          rw [HNF.out] at h
          simpa using h.symm
        have HQ : Hid (frightB r s = decide (z = (Rat.divInt z (ben y)).num ∧ y = und (Rat.divInt z (ben y)))) := hide (by
          have h := frightB_iff z y HZ1.out HZ2.out HN.out HZ4.out
          by_cases hv : frightB r s = true
          · rw [hv]
            obtain ⟨q, h1, h2⟩ := h.1 hv
            rw [eq_comm, decide_eq_true_eq, h1, h2, ben_und, Rat.num_divInt_den]
            exact ⟨rfl, rfl⟩
          · rw [Bool.not_eq_true] at hv
            rw [hv, eq_comm, decide_eq_false_iff_not]
            rintro ⟨h1, h2⟩
            rw [h.2 ⟨_, h1, h2⟩] at hv
            cases hv)
        have hlz : len z ≤ 1000000000 := by unfold len; rw [← HZ2.out, HGK.out]; omega
        have hly : len y ≤ 1000000000 := by unfold len; rw [← HZ4.out, HGL.out]; omega
        have hlb : len (ben y) ≤ 1000000000 := by
          unfold ben
          split
          · exact Nat.le_trans (dg_len BB2 (show (1 : Nat) < BB ^ 1 by decide)) (by decide)
          · exact hly
        generalize hv : decide (z = (Rat.divInt z (ben y)).num ∧ y = und (Rat.divInt z (ben y))) = vv at HQ
        have HVV := hide hv
        clear hv
        have dz : Dm z := dm_len (by omega)
        have db : Dm (ben y) := dm_len (by omega)
        have dn : dlen (Rat.divInt z (ben y)).num ≤ 100000000000 := dz.le (divInt_num_le _ _)
        have dd : dlen ((Rat.divInt z (ben y)).den : Int) ≤ 100000000000 := db.le (by
          have h : ben y ≠ 0 := by unfold ben; split <;> omega
          simpa using divInt_den_le (x := z) h)
        go_wp2_with fail
        refine (ROf2_any w2 (FrV.mk hiz hiy) (by omega) (by omega)).mono ?_
        rintro e w3 ⟨f, rfl, hf, hb3⟩
        obtain ⟨fn, fa, fl, fk, fm, fb, fi, fj, rfl, hf1, hf2⟩ := RFrV.parts hf
        replace bx := bx.below hb3 bx.lt
        replace sb := sb.trans (hb3.mono sb.size)
        replace hiz := hiz.below hb3 (Nat.le_refl _)
        replace hiy := hiy.below hb3 (Nat.le_refl _)
        clear x0 x1 x2 x3 hb3 hf
        obtain ⟨w4, hw4⟩ : ∃ w4, w3.alloc (.cells #[.bool fn, .slice fa fl fk, .bool fm, .slice fb fi fj] 68) = w4 := ⟨_, rfl⟩
        have bf : Blk w4 w3.heap.size 68 #[.bool fn, .slice fa fl fk, .bool fm, .slice fb fi fj] := by rw [← hw4]; exact Blk.new _ _ _
        have hb4 : Below w3.heap.size w3 w4 := by rw [← hw4]; exact (Below.refl _ _).alloc (Nat.le_refl _) _
        replace bx := bx.below hb4 bx.lt
        replace sb := sb.trans (hb4.mono sb.size)
        replace hiz := hiz.below hb4 (Nat.le_refl _)
        replace hiy := hiy.below hb4 (Nat.le_refl _)
        replace hf1 := hf1.below hb4 (Nat.le_refl _)
        replace hf2 := hf2.below hb4 (Nat.le_refl _)
        have HW := hide hw4
        clear hw4 hb4
        go_upto_region 4 with (fail)
        rw [HW.out]
        clear HW
        generalize w3.heap.size = G at bf ⊢
        obtain ⟨x0, x1, x2, x3, -⟩ := bx.c4
        obtain ⟨f0, f1, f2, f3, -⟩ := bf.c4
        have sb1 := sb.drew
        have hb0 := (Below.refl w4.heap.size w4).drew
        go_region_held3 (fun w' => w'.cell? ⟨w.heap.size, 0, none⟩ = some (.bool r.neg) ∧ w'.cell? ⟨w.heap.size, 1, none⟩ = some (.slice r.at_ k r.cap) ∧ w'.cell? ⟨w.heap.size, 2, none⟩ = some (.bool false) ∧ w'.cell? ⟨w.heap.size, 3, none⟩ = some (.slice s.at_ l s.cap) ∧ w'.cell? ⟨G, 0, none⟩ = some (.bool fn) ∧ w'.cell? ⟨G, 1, none⟩ = some (.slice fa fl fk) ∧ w'.cell? ⟨G, 2, none⟩ = some (.bool fm) ∧ w'.cell? ⟨G, 3, none⟩ = some (.slice fb fi fj) ∧ Below w4.heap.size w4 w')
          (first | with_reducible exact keepZ8 (by assumption) hb1 | go_keep)
          (first
            | (go_at_call_of 36 (Value.agg #[.bool fn, .slice fa fl fk]); (with_reducible refine (RMake2_any _ (hf1.below (by go_split_ands; assumption) (Nat.le_refl _)) (hf2.below (by go_split_ands; assumption) (Nat.le_refl _)) dz db).mono ?_); rintro e wN ⟨rA, rfl, hA, hb1⟩)
            | (go_at_call_of 35 rA; (with_reducible refine (RForm2_any _ hA dn dd).mono ?_); rintro e wN ⟨rB, rfl, hB, hb1⟩)
            | (go_at_call_of 18 rB; (with_reducible refine (Same2_any _ (FrV.mk (hiz.below (by go_split_ands; assumption) (Nat.le_refl _)) (hiy.below (by go_split_ands; assumption) (Nat.le_refl _))) hB.fr sz sy).mono ?_); rintro e wN ⟨rfl, hb1⟩; rw [HVV.out]))
        rename_i hS
        have hfin := sb.trans (hS.2.2.2.2.2.2.2.2.mono sb.size)
        go_wp2_with fail
        rw [← HP.out]
        exact ⟨by rw [HQ.out]; rfl, hfin⟩
end Go.Proofs.YtphjffbldhhdiaaGreatDoor

namespace Go.Proofs.YtphjffbldhhdiaaGreatDoor
open Go.RowKit

/-- A fraction as it came in. -/
structure RFr where
  up : Raw
  dn : Raw
def RFr.val (r : RFr) : Value := .agg #[.bool r.up.neg, .slice r.up.at_ r.up.ds.length r.up.cap, .bool r.dn.neg, .slice r.dn.at_ r.dn.ds.length r.dn.cap]
structure RFrOk (w : World) (r : RFr) : Prop where
  up : RawOk w r.up
  dn : RawOk w r.dn
theorem RFrOk.below {w w' : World} {B : Nat} {r : RFr} (h : RFrOk w r) (hb : Below B w w') (hB : w.heap.size ≤ B) : RFrOk w' r := ⟨h.1.below hb hB, h.2.below hb hB⟩
/-- Small, and right. -/
def RFr.good (r : RFr) : Prop := r.up.ds.length ≤ 5 ∧ r.dn.ds.length ≤ 5 ∧ frightB r.up r.dn = true
end Go.Proofs.YtphjffbldhhdiaaGreatDoor

namespace Go.Proofs.YtphjffbldhhdiaaGreatDoor
open Go.RowKit

theorem Qn.dl {m : Nat} {q : Rat} (h : Qn m q) (hm : m ≤ 1000000000) : dlen q.num ≤ 100000000000 ∧ dlen (q.den : Int) ≤ 100000000000 := ⟨dm_len (Nat.le_trans h.1 hm), dm_len (Nat.le_trans h.2 hm)⟩
theorem FCmp_at {c : World} {p q : Rat} {u v : Value} {C : Int} (hx : FracV c u p) (hy : FracV c v q) (hp : Qz p) (hq : Qz q) (hC : ordQ p q = C) : Calls Tryz.prog 53 #[u, v] c fun e w' => e = .returned (.int .i64 C) ∧ Below c.heap.size c w' := by
  subst hC; exact FCmp_any c hx hy hp hq
theorem RCmp2_at {c : World} {p q : Rat} {u v : Value} {C : Int} (hx : RFracV c u p) (hy : RFracV c v q) (hp : Qr p) (hq : Qr q) (hC : ordQ p q = C) : Calls Tryz.prog 30 #[u, v] c fun e w' => e = .returned (.int .i64 C) ∧ Below c.heap.size c w' := by
  subst hC; exact RCmp2_any c hx hy hp hq
theorem FOf2_any {x : Int} {u : Value} (w : World) (hx : IntV w u x) (hn : Sm x) : Calls Tryz.prog 41 #[u] w (FracPost w (x : Rat)) := by
  refine (FOf_any w hx hn).mono ?_
  rintro e w' ⟨r, he, hr, hb⟩
  refine ⟨r, he, ?_, hb⟩
  unfold FracV
  rw [Rat.num_intCast, und_int]
  exact hr
theorem FracV.len {w : World} {n m : Bool} {a b : Option Addr} {l k i j : Nat} {q : Rat} (h : FracV w (.agg #[.bool n, .slice a l k, .bool m, .slice b i j]) q) : l = len q.num ∧ i = len (und q) := by
  obtain ⟨_, _, _, _, _, _, _, _, e, h1, h2⟩ := h
  simp only [Value.agg.injEq, Array.mk.injEq, List.cons.injEq, Value.bool.injEq, Value.slice.injEq, and_true] at e
  obtain ⟨rfl, ⟨rfl, rfl, rfl⟩, rfl, ⟨rfl, rfl, rfl⟩⟩ := e
  exact ⟨h1.sign.2, h2.sign.2⟩
theorem FracV.zero (w : World) : FracV w (.agg #[.bool false, .slice none 0 0, .bool false, .slice none 0 0]) 0 := FrV.mk (IntV.zero w) (IntV.zero w)
theorem Qn.zero : Qn 1 (0 : Rat) := ⟨by decide, by
  show len ((1 : Nat) : Int) ≤ 1
  exact dg_len BB2 (by decide)⟩

theorem ordQ_cases (p q : Rat) : (p < q ∧ ordQ p q = -1) ∨ (p = q ∧ ordQ p q = 0) ∨ (q < p ∧ ordQ p q = 1) := by
  rw [ordQ_eq]
  by_cases h : p < q
  · left; exact ⟨h, if_pos h⟩
  · rw [if_neg h]
    by_cases h2 : q < p
    · right; right; exact ⟨h2, if_pos h2⟩
    · right; left; exact ⟨by grind, if_neg h2⟩
theorem ordQ_lt {p q : Rat} (h : p < q) : ordQ p q = -1 := by rw [ordQ_eq, if_pos h]
theorem ordQ_self (p : Rat) : ordQ p p = 0 := by rw [ordQ_eq, if_neg (by grind), if_neg (by grind)]
end Go.Proofs.YtphjffbldhhdiaaGreatDoor

namespace Go.Proofs.YtphjffbldhhdiaaGreatDoor
open Go.ChangeShapes Go.WideShapes Go.ChangeAt Go.RowKit

theorem cellsI : Tryz.prog.cellsOf 37 = 2 := by kernel_rfl
theorem cellsF : Tryz.prog.cellsOf 39 = 4 := by kernel_rfl
set_option maxRecDepth 100000 in
/-- An integer's two cells. -/
theorem open_two {H : Type} {enc : TypeId × Value → H} {W : World} {n : Nat} {c0 c1 : Value} {y : DataW H × List MemPlace} (h : DataW.trod enc Tryz.prog W 0 (fun _ => true) true n 37 [c0, c1] = some y) :
    ∃ R : Raw, c0 = .bool R.neg ∧ c1 = .slice R.at_ R.ds.length R.cap ∧ RawOk W R := by
  obtain ⟨y0, y1, m, _, _, h0, h1⟩ := Go.ChangeShapes.trod_struct2 Tryz.underlying37 h
  have h0' : DataW.trod enc Tryz.prog W 0 (fun _ => true) true m 4 [c0] = some y0 := h0
  have h1' : DataW.trod enc Tryz.prog W 0 (fun _ => true) true m 35 [c1] = some y1 := h1
  obtain ⟨b, e0, _⟩ := DataW.trod_bool Tryz.underlying4 h0'
  obtain ⟨a, c, ds, rfl, hd, hf, hl⟩ := open_digits h1'
  simp at e0
  subst e0
  exact ⟨⟨b, a, c, ds⟩, rfl, rfl, ⟨hd, hf, hl⟩⟩

end Go.Proofs.YtphjffbldhhdiaaGreatDoor
