/- collatorref02's Int, Make: by their contracts. -/
import Derived.Test.YthpibilefdmemaaDoorFrac7
namespace Go.Proofs.YthpibilefdmemaaDoor
open Go.RowKit

theorem NumV.sign {w : World} {n : Bool} {a : Option Addr} {l k : Nat} {z : Int} (h : NumV w (.agg #[.bool n, .slice a l k]) z) : n = decide (z < 0) ∧ l = dlen z := by
  obtain ⟨a', c', e, -, -⟩ := h
  simp at e
  exact ⟨e.1, e.2.2.1⟩
theorem dlen_eq_zero {z : Int} : dlen z = 0 ↔ z = 0 := by
  constructor
  · intro h
    have := (dg_eq_nil T2).1 (List.length_eq_zero_iff.1 h)
    omega
  · rintro rfl; rfl
theorem Dm.neg {x : Int} (h : Dm x) : Dm (-x) := by unfold Dm dlen at *; rw [Int.natAbs_neg]; exact h
theorem dlen_mono {x y : Int} (h : x.natAbs ≤ y.natAbs) : dlen x ≤ dlen y := dg_len_mono T2 h
theorem Dm.le {x y : Int} (hy : Dm y) (h : x.natAbs ≤ y.natAbs) : Dm x := Nat.le_trans (dlen_mono h) hy

set_option maxRecDepth 100000 in
set_option maxHeartbeats 3200000 in
theorem RInt2_any (m : Int) (w : World) (h1 : -9223372036854775807 ≤ m) (h2 : m ≤ 9223372036854775807) : Calls Tryd.prog 78 #[.int .i64 m] w (RFracPost w (m : Rat)) := by
  generalize hP : RFracPost w (m : Rat) = Post
  have HP := hide hP
  clear hP
  obtain ⟨W, hW⟩ : ∃ W, (w.alloc (.cells #[.bool false, .slice none 0 0, .bool false, .slice none 0 0] 64)) = W := ⟨_, rfl⟩
  have bR : Blk W w.heap.size 64 #[.bool false, .slice none 0 0, .bool false, .slice none 0 0] := by rw [← hW]; exact Blk.new w _ _
  have sb : Below w.heap.size w W := by rw [← hW]; exact (Below.refl w.heap.size w).alloc (Nat.le_refl _) _
  have hK : Kq w 64 w.heap.size W := ⟨sb, by omega, _, _, _, _, _, _, _, _, bR⟩
  have HW := hide hW
  clear hW  bR
  go_enter Tryd.func78, Tryd.ntmps78
  go_upto_region 1 with (fail)
  rw [HW.out]
  clear HW
  have hN : Hid ((m : Rat).num = m ∧ (((m : Rat).den : Nat) : Int) = 1) := hide ⟨Rat.num_intCast m, by rw [Rat.den_intCast]; rfl⟩
  go_wp2_with fail
  refine (RInt_any m W h1 h2).mono ?_
  rintro e w1 ⟨r, rfl, hr, hb1⟩
  obtain ⟨rn, ra, rl, rk, rfl⟩ := hr.parts
  have hK1 := hK.below hb1
  go_wp2_with fail
  refine (RInt_any 1 w1 (by decide) (by decide)).mono ?_
  rintro e w2 ⟨s, rfl, hs, hb2⟩
  obtain ⟨rm, rb, ri, rj, rfl⟩ := hs.parts
  replace hr := hr.below hb2 (Nat.le_refl _)
  have hb1 := hb2
  obtain ⟨_, _, _, _, _, _, _, _, k0, k1, k2, k3, kf0, kf1, kf2, kf3, hX4⟩ := Kq.at (t := 64) (g := w.heap.size) (w := w) hK1 hb1
  have hI := (RFrV.mk hr hs).st4 hX4 (.bool rn) (.slice ra rl rk) (.bool rm) (.slice rb ri rj)
  obtain ⟨e0, e1, e2, e3, -⟩ := (hX4.four (.bool rn) (.slice ra rl rk) (.bool rm) (.slice rb ri rj)).c4
  go_wp2_with fail
  refine bodyPost_ret (v := Value.agg #[.bool rn, .slice ra rl rk, .bool rm, .slice rb ri rj]) (by simp [results, Tryd.results78, go_sem, e0, e1, e2, e3]) rfl ?_
  rw [← HP.out]
  exact ⟨_, rfl, by unfold RFracV; rw [hN.out.1, hN.out.2]; exact hI, set4b (hK1.below hb1).bel (Nat.le_refl _) _ _ _ _⟩

set_option maxRecDepth 100000 in
set_option maxHeartbeats 3200000 in
theorem RMake2_any {x y : Int} {u v : Value} (w : World) (hx : NumV w u x) (hy : NumV w v y) (hn : Dm x) (hm : Dm y) : Calls Tryd.prog 43 #[u, v] w (RFracPost w (Rat.divInt x y)) := by
  generalize hP : RFracPost w (Rat.divInt x y) = Post
  have HP := hide hP
  clear hP
  obtain ⟨xn, xa, xl, xk, rfl⟩ := hx.parts
  obtain ⟨yn, ya, yl, yk, rfl⟩ := hy.parts
  have hxl := hide hx.sign.2
  have hyl := hide hy.sign
  obtain ⟨W, hW⟩ : ∃ W, (((w.alloc (.cells #[.bool xn, .slice xa xl xk] 30)).alloc (.cells #[.bool yn, .slice ya yl yk] 30)).alloc (.cells #[.bool false, .slice none 0 0, .bool false, .slice none 0 0] 64)) = W := ⟨_, rfl⟩
  have bx : Blk W w.heap.size 30 #[.bool xn, .slice xa xl xk] := by rw [← hW]; exact ((Blk.new w _ _).alloc _).alloc _
  have by_ : Blk W (w.heap.size + 1) 30 #[.bool yn, .slice ya yl yk] := by rw [← hW]; exact (Blk.new_at _ _ _ (by simp)).alloc _
  have bR : Blk W (w.heap.size + 1 + 1) 64 #[.bool false, .slice none 0 0, .bool false, .slice none 0 0] := by rw [← hW]; exact Blk.new_at _ _ _ (by simp)
  have sb : Below w.heap.size w W := by rw [← hW]; exact (((Below.refl w.heap.size w).alloc (Nat.le_refl _) _).alloc (by simp) _).alloc (by simp; omega) _
  obtain ⟨cx0, cx1, -⟩ := bx.c2
  obtain ⟨cy0, cy1, -⟩ := by_.c2
  have hK : Kq w 64 (w.heap.size + 1 + 1) W := ⟨sb, by omega, _, _, _, _, _, _, _, _, bR⟩
  have HW := hide hW
  clear hW
  go_enter Tryd.func43, Tryd.ntmps43
  go_upto_region 1 with (fail)
  rw [HW.out]
  clear HW
  clear hK cx0 cx1 cy0 cy1
  replace hx := hx.below sb (Nat.le_refl _)
  replace hy := hy.below sb (Nat.le_refl _)
  obtain ⟨x0, x1, -⟩ := bx.c2
  obtain ⟨y0, y1, -⟩ := by_.c2
  by_cases h0 : y = 0 ∨ x = 0
  · have HQ : Hid (Rat.divInt x y = ((0 : Int) : Rat)) := hide (by rcases h0 with h | h <;> subst h <;> simp [Rat.divInt_zero, Rat.zero_divInt])
    have s0 : True := trivial
    clear s0
    by_cases hy0 : y = 0
    · obtain rfl : yl = 0 := by rw [hyl.out.2, hy0]; rfl
      clear h0 hy0 x0 x1
      go_wp2_with fail
      refine (RInt2_any 0 _ (by decide) (by decide)).mono ?_
      rintro e w1 ⟨r, rfl, hr, hb1⟩
      obtain ⟨rn, ra, rl, rk, rm, rb, ri, rj, rfl, -, -⟩ := RFrV.parts hr
      have bR1 := bR.below hb1 bR.lt
      obtain ⟨r0, r1, r2, r3, rf⟩ := bR1.c4
      have rf0 := rf 0
      have rf1 := rf 1
      have rf2 := rf 2
      have rf3 := rf 3
      have hI := RFrV.st4 hr bR1 (.bool rn) (.slice ra rl rk) (.bool rm) (.slice rb ri rj)
      obtain ⟨e4, e5, e6, e7, -⟩ := (bR1.four (.bool rn) (.slice ra rl rk) (.bool rm) (.slice rb ri rj)).c4
      go_wp2_with fail
      refine bodyPost_ret (v := .agg #[.bool rn, .slice ra rl rk, .bool rm, .slice rb ri rj]) (by simp [results, Tryd.results43, go_sem, e4, e5, e6, e7]) rfl ?_
      rw [← HP.out, HQ.out]
      exact ⟨_, rfl, hI, set4b (sb.trans (hb1.mono sb.size)) (by omega) _ _ _ _⟩
    · have hx0 : x = 0 := by rcases h0 with h | h; exact absurd h hy0; exact h
      obtain rfl : xl = 0 := by rw [hxl.out, hx0]; rfl
      have hl0 : yl ≠ 0 := by rw [hyl.out.2]; intro e; exact hy0 (dlen_eq_zero.1 e)
      have e0 : ((yl : Int) == 0) = false := beq_eq_false_iff_ne.2 (by omega)
      have e1 : decide (yl = 0) = false := decide_eq_false hl0
      clear h0 hy0 hx0 hl0
      go_wp2_with fail
      refine (RInt2_any 0 _ (by decide) (by decide)).mono ?_
      rintro e w1 ⟨r, rfl, hr, hb1⟩
      obtain ⟨rn, ra, rl, rk, rm, rb, ri, rj, rfl, -, -⟩ := RFrV.parts hr
      have bR1 := bR.below hb1 bR.lt
      obtain ⟨r0, r1, r2, r3, rf⟩ := bR1.c4
      have rf0 := rf 0
      have rf1 := rf 1
      have rf2 := rf 2
      have rf3 := rf 3
      have hI := RFrV.st4 hr bR1 (.bool rn) (.slice ra rl rk) (.bool rm) (.slice rb ri rj)
      obtain ⟨e4, e5, e6, e7, -⟩ := (bR1.four (.bool rn) (.slice ra rl rk) (.bool rm) (.slice rb ri rj)).c4
      go_wp2_with fail
      refine bodyPost_ret (v := .agg #[.bool rn, .slice ra rl rk, .bool rm, .slice rb ri rj]) (by simp [results, Tryd.results43, go_sem, e4, e5, e6, e7]) rfl ?_
      rw [← HP.out, HQ.out]
      exact ⟨_, rfl, hI, set4b (sb.trans (hb1.mono sb.size)) (by omega) _ _ _ _⟩
  · have hy0 : y ≠ 0 := fun h => h0 (.inl h)
    have hl0 : yl ≠ 0 := by rw [hyl.out.2]; intro e; exact hy0 (dlen_eq_zero.1 e)
    have hk0 : xl ≠ 0 := by rw [hxl.out]; intro e; exact h0 (.inr (dlen_eq_zero.1 e))
    have e0 : ((yl : Int) == 0) = false := beq_eq_false_iff_ne.2 (by omega)
    have e1 : decide (yl = 0) = false := decide_eq_false hl0
    have e2 : ((xl : Int) == 0) = false := beq_eq_false_iff_ne.2 (by omega)
    have e3 : decide (xl = 0) = false := decide_eq_false hk0
    clear h0 hl0 hk0
    have HNE := hide hy0
    clear hy0
    go_upto_if 22 with (fail)
    go_cut [] from 23 to 26 (fun wc => ∃ (X Y : Int) (xn : Bool) (xa : Option Addr) (xl xk : Nat) (yn : Bool) (ya : Option Addr) (yl yk : Nat), 0 < Y ∧ Dm X ∧ Dm Y ∧ Rat.divInt X Y = Rat.divInt x y ∧ Blk wc w.heap.size 30 #[.bool xn, .slice xa xl xk] ∧ Blk wc (w.heap.size + 1) 30 #[.bool yn, .slice ya yl yk] ∧ (∃ (n1 : Bool) (a1 : Option Addr) (l1 k1 : Nat) (n2 : Bool) (a2 : Option Addr) (l2 k2 : Nat), Blk wc (w.heap.size + 1 + 1) 64 #[.bool n1, .slice a1 l1 k1, .bool n2, .slice a2 l2 k2]) ∧ NumV wc (.agg #[.bool xn, .slice xa xl xk]) X ∧ NumV wc (.agg #[.bool yn, .slice ya yl yk]) Y ∧ Below w.heap.size w wc)
    case first =>
      by_cases hlt : y < 0
      · have hyn : yn = true := by rw [hyl.out.1, decide_eq_true hlt]
        subst hyn
        have HX : Hid (0 < -y ∧ Rat.divInt (-x) (-y) = Rat.divInt x y) := hide ⟨by omega, Rat.neg_divInt_neg x y⟩
        clear hlt
        go_wp2_with fail
        refine (RNeg_any W hx hn).mono ?_
        rintro e w1 ⟨r, rfl, hr, hb1⟩
        obtain ⟨rn, ra, rl, rk, rfl⟩ := hr.parts
        clear x0 x1 y0 y1
        replace bx := bx.below hb1 bx.lt
        replace by_ := by_.below hb1 by_.lt
        replace bR := bR.below hb1 bR.lt
        replace hx := hx.below hb1 (Nat.le_refl _)
        replace hy := hy.below hb1 (Nat.le_refl _)
        replace sb := sb.trans (hb1.mono sb.size)
        clear hb1
        obtain ⟨x0, x1, xf⟩ := bx.c2
        have xf0 := xf 0
        have xf1 := xf 1
        have bx2 := bx.two (.bool rn) (.slice ra rl rk)
        have by2 := (by_.far (p := ⟨w.heap.size, 0, none⟩) (by simp) (.bool rn)).far (p := ⟨w.heap.size, 1, none⟩) (by simp) (.slice ra rl rk)
        have bR2 := (bR.far (p := ⟨w.heap.size, 0, none⟩) (by simp; omega) (.bool rn)).far (p := ⟨w.heap.size, 1, none⟩) (by simp; omega) (.slice ra rl rk)
        have hr2 := hr.st2 bx (.bool rn) (.slice ra rl rk)
        have hy2 := hy.st2 bx (.bool rn) (.slice ra rl rk)
        have sb2 := set2b sb (Nat.le_refl _) 0 1 (.bool rn) (.slice ra rl rk)
        go_upto_region 5 with (fail)
        generalize (w1.setCell ⟨w.heap.size, 0, none⟩ (.bool rn)).setCell ⟨w.heap.size, 1, none⟩ (.slice ra rl rk) = w2 at bx2 by2 bR2 hr2 hy2 sb2 ⊢
        clear x0 x1 xf xf0 xf1 bx by_ bR hx hy sb hr
        obtain ⟨y0, y1, -⟩ := by2.c2
        go_wp2_with fail
        refine (RNeg_any w2 hy2 hm).mono ?_
        rintro e w3 ⟨s, rfl, hs, hb3⟩
        obtain ⟨sn, sa, sl, sk, rfl⟩ := hs.parts
        clear y0 y1
        replace bx2 := bx2.below hb3 bx2.lt
        replace by2 := by2.below hb3 by2.lt
        replace bR2 := bR2.below hb3 bR2.lt
        replace hr2 := hr2.below hb3 (Nat.le_refl _)
        replace sb2 := sb2.trans (hb3.mono sb2.size)
        obtain ⟨y0, y1, yf⟩ := by2.c2
        have yf0 := yf 0
        have yf1 := yf 1
        go_wp2_with fail
        go_meet
        exact ⟨-x, -y, rn, ra, rl, rk, sn, sa, sl, sk, HX.out.1, hn.neg, hm.neg, HX.out.2, (bx2.far (by simp) _).far (by simp) _, by2.two _ _, ⟨_, _, _, _, _, _, _, _, (bR2.far (by simp) _).far (by simp) _⟩, hr2.st2 by2 _ _, hs.st2 by2 _ _, set2b sb2 (by omega) _ _ _ _⟩
      · have hyn : yn = false := by rw [hyl.out.1, decide_eq_false hlt]
        subst hyn
        have HX : Hid (0 < y) := hide (by have := HNE.out; omega)
        clear hlt
        go_wp2_with fail
        go_meet
        exact ⟨x, y, xn, xa, xl, xk, false, ya, yl, yk, HX.out, hn, hm, rfl, bx, by_, ⟨_, _, _, _, _, _, _, _, bR⟩, hx, hy, sb⟩
    case rest =>
      clear bx by_ bR hx hy sb hn hm x0 x1 y0 y1 e0 e1 e2 e3 hxl hyl
      obtain ⟨X, Y, xn, xa, xl, xk, yn, ya, yl, yk, hY, hn, hm, hQ, bx, by_, ⟨_, _, _, _, _, _, _, _, bR⟩, hx, hy, sb⟩ := hcut
      have HQ := hide hQ
      have HG : Hid (¬ ((Nat.gcd X.natAbs Y.natAbs : Nat) : Int) = 0) := hide (by have := gsg_ne (x := X) (show Y ≠ 0 by omega); unfold gsg at this; rwa [if_neg (by omega)] at this)
      have HO : Hid (X / ((Nat.gcd X.natAbs Y.natAbs : Nat) : Int) = (Rat.divInt x y).num) := hide (by have h := make_over (x := X) (show Y ≠ 0 by omega); unfold gsg at h; rw [if_neg (by omega), hQ] at h; exact h)
      have HL : Hid (Y / ((Nat.gcd X.natAbs Y.natAbs : Nat) : Int) = ((Rat.divInt x y).den : Int)) := hide (by have h := make_below (x := X) (show Y ≠ 0 by omega); unfold gsg at h; rw [if_neg (by omega), hQ] at h; exact h)
      have sG : Dm ((Nat.gcd X.natAbs Y.natAbs : Nat) : Int) := hm.le (by have := Nat.le_of_dvd (show 0 < Y.natAbs by omega) (Nat.gcd_dvd_right X.natAbs Y.natAbs); omega)
      clear hQ hY
      rename_i wc
      obtain ⟨x0, x1, -⟩ := bx.c2
      obtain ⟨y0, y1, -⟩ := by_.c2
      go_wp2_with fail
      refine (RGcd_any _ hx hy hn hm).mono ?_
      rintro e w2 ⟨g, rfl, hg, hb2⟩
      obtain ⟨gn, ga, gl, gk, rfl⟩ := hg.parts
      clear x0 x1 y0 y1
      replace bx := bx.below hb2 bx.lt
      replace by_ := by_.below hb2 by_.lt
      replace bR := bR.below hb2 bR.lt
      replace hx := hx.below hb2 (Nat.le_refl _)
      replace hy := hy.below hb2 (Nat.le_refl _)
      replace sb := sb.trans (hb2.mono sb.size)
      clear hb2
      have hGL := bR.lt
      obtain ⟨w3, hw3⟩ : ∃ w3, w2.alloc (.cells #[.bool gn, .slice ga gl gk] 30) = w3 := ⟨_, rfl⟩
      have bg : Blk w3 w2.heap.size 30 #[.bool gn, .slice ga gl gk] := by rw [← hw3]; exact Blk.new _ _ _
      have hb3 : Below w2.heap.size w2 w3 := by rw [← hw3]; exact (Below.refl _ _).alloc (Nat.le_refl _) _
      replace hg := hg.below hb3 (Nat.le_refl _)
      replace bx := bx.below hb3 bx.lt
      replace by_ := by_.below hb3 by_.lt
      replace bR := bR.below hb3 bR.lt
      replace hx := hx.below hb3 (Nat.le_refl _)
      replace hy := hy.below hb3 (Nat.le_refl _)
      replace sb := sb.trans (hb3.mono sb.size)
      clear hb3
      have HW := hide hw3
      clear hw3
      go_upto_region 7 with (fail)
      rw [HW.out]
      clear HW
      generalize hGG : w2.heap.size = G at bg hGL ⊢
      clear hGG
      obtain ⟨x0, x1, -⟩ := bx.c2
      obtain ⟨y0, y1, -⟩ := by_.c2
      obtain ⟨g0, g1, -⟩ := bg.c2
      go_wp2_with fail
      refine (RDiv_any _ hx hg hn sG).mono ?_
      rintro e w6 ⟨p, t, rfl, hp, ht, hbw6⟩
      rw [if_neg HG.out] at hp ht
      obtain ⟨pn, pa, pl, pc, rfl⟩ := hp.parts
      obtain ⟨tn, ta, tl, tc, rfl⟩ := ht.parts
      clear x0 x1 y0 y1 g0 g1
      replace bx := bx.below hbw6 bx.lt
      replace by_ := by_.below hbw6 by_.lt
      replace bR := bR.below hbw6 bR.lt
      replace bg := bg.below hbw6 bg.lt
      replace hx := hx.below hbw6 (Nat.le_refl _)
      replace hy := hy.below hbw6 (Nat.le_refl _)
      replace hg := hg.below hbw6 (Nat.le_refl _)
      replace sb := sb.trans (hbw6.mono sb.size)
      clear hbw6
      have hLp := bg.lt
      obtain ⟨w6z, hzw6⟩ : ∃ w5, (w6.alloc (.cells #[.bool false, .slice none 0 0] 30)).alloc (.cells #[.bool false, .slice none 0 0] 30) = w5 := ⟨_, rfl⟩
      obtain ⟨⟨q0, q1, q2, q3, q4, q5⟩, w6b, hww6, hBp, hBt, hbz⟩ := boxes2 hzw6 (.bool pn) (.slice pa pl pc) (.bool tn) (.slice ta tl tc)
      replace hp := hp.below hbz (Nat.le_refl _)
      replace bx := bx.below hbz bx.lt
      replace by_ := by_.below hbz by_.lt
      replace bR := bR.below hbz bR.lt
      replace bg := bg.below hbz bg.lt
      replace hx := hx.below hbz (Nat.le_refl _)
      replace hy := hy.below hbz (Nat.le_refl _)
      replace hg := hg.below hbz (Nat.le_refl _)
      replace sb := sb.trans (hbz.mono sb.size)
      clear hbz
      have HW := hide hww6
      clear hww6
      go_upto_region 8 with (fail)
      rw [HW.out]
      clear HW hzw6 q0 q1 q2 q3 q4 q5 ht hBt
      generalize hgp : w6.heap.size = Gp at hBp hLp ⊢
      clear hgp
      rw [HO.out] at hp
      obtain ⟨x0, x1, -⟩ := bx.c2
      obtain ⟨y0, y1, -⟩ := by_.c2
      obtain ⟨g0, g1, -⟩ := bg.c2
      go_wp2_with fail
      refine (RDiv_any _ hy hg hm sG).mono ?_
      rintro e w8 ⟨d, u, rfl, hd, hu, hbw8⟩
      rw [if_neg HG.out] at hd hu
      obtain ⟨dn, da, dl, dc, rfl⟩ := hd.parts
      obtain ⟨un, ua, ul, uc, rfl⟩ := hu.parts
      clear x0 x1 y0 y1 g0 g1
      replace bx := bx.below hbw8 bx.lt
      replace by_ := by_.below hbw8 by_.lt
      replace bR := bR.below hbw8 bR.lt
      replace bg := bg.below hbw8 bg.lt
      replace hBp := hBp.below hbw8 hBp.lt
      replace hx := hx.below hbw8 (Nat.le_refl _)
      replace hy := hy.below hbw8 (Nat.le_refl _)
      replace hg := hg.below hbw8 (Nat.le_refl _)
      replace hp := hp.below hbw8 (Nat.le_refl _)
      replace sb := sb.trans (hbw8.mono sb.size)
      clear hbw8
      have hLd := hBp.lt
      obtain ⟨w8z, hzw8⟩ : ∃ w5, (w8.alloc (.cells #[.bool false, .slice none 0 0] 30)).alloc (.cells #[.bool false, .slice none 0 0] 30) = w5 := ⟨_, rfl⟩
      obtain ⟨⟨q0, q1, q2, q3, q4, q5⟩, w8b, hww8, hBd, hBu, hbz⟩ := boxes2 hzw8 (.bool dn) (.slice da dl dc) (.bool un) (.slice ua ul uc)
      replace hd := hd.below hbz (Nat.le_refl _)
      replace bx := bx.below hbz bx.lt
      replace by_ := by_.below hbz by_.lt
      replace bR := bR.below hbz bR.lt
      replace bg := bg.below hbz bg.lt
      replace hBp := hBp.below hbz hBp.lt
      replace hx := hx.below hbz (Nat.le_refl _)
      replace hy := hy.below hbz (Nat.le_refl _)
      replace hg := hg.below hbz (Nat.le_refl _)
      replace hp := hp.below hbz (Nat.le_refl _)
      replace sb := sb.trans (hbz.mono sb.size)
      clear hbz
      have HW := hide hww8
      clear hww8
      go_upto_region 9 with (fail)
      rw [HW.out]
      clear HW hzw8 q0 q1 q2 q3 q4 q5 hu hBu
      generalize hgd : w8.heap.size = Gd at hBd hLd ⊢
      clear hgd
      rw [HL.out] at hd
      obtain ⟨r0, r1, r2, r3, rf⟩ := bR.c4
      have rf0 := rf 0
      have rf1 := rf 1
      have rf2 := rf 2
      have rf3 := rf 3
      obtain ⟨d0, d1, -⟩ := hBd.c2
      obtain ⟨p0, p1, -⟩ := hBp.c2
      have hI := (RFrV.mk hp hd).st4 bR (.bool pn) (.slice pa pl pc) (.bool dn) (.slice da dl dc)
      obtain ⟨e4, e5, e6, e7, -⟩ := (bR.four (.bool pn) (.slice pa pl pc) (.bool dn) (.slice da dl dc)).c4
      go_wp2_with fail
      refine bodyPost_ret (v := .agg #[.bool pn, .slice pa pl pc, .bool dn, .slice da dl dc]) (by simp [results, Tryd.results43, go_sem, e4, e5, e6, e7]) rfl ?_
      rw [← HP.out]
      exact ⟨_, rfl, hI, set4b sb (by omega) _ _ _ _⟩

end Go.Proofs.YthpibilefdmemaaDoor
