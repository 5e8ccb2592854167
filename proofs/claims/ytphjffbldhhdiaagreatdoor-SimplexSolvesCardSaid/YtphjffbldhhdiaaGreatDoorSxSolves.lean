/- The walk of the law SimplexSolves. -/
import Derived.Test.YtphjffbldhhdiaaGreatDoorSxSpeaks
import Derived.Test.YtphjffbldhhdiaaGreatDoorSxGreat
import Derived.Test.YtphjffbldhhdiaaGreatDoorSxNever
namespace Go.Proofs.YtphjffbldhhdiaaGreatDoor
open Go.RowKit

theorem sz1 {n : Nat} (hn : n ≤ 8) : szB 1 n ≤ 87381 := Nat.le_trans (szB_mono hn) (by simp only [szB]; omega)
theorem k2_le {n : Nat} (hn : n ≤ 8) : n * (szB 1 n + 1 + 1) + 1 + 1 ≤ 700000 := by
  have h := sz1 hn
  have : n * (szB 1 n + 1 + 1) ≤ 8 * (szB 1 n + 1 + 1) := Nat.mul_le_mul_right _ hn
  omega
theorem RowsAt.val2 {w : World} {b o n : Nat} {rs : List RRow} (h : RowsAt w (some ⟨b, o, none⟩) rs) (hr : rightRows n rs = true) : RowsV w b o (sysOf n rs) := by
  rcases Nat.eq_zero_or_pos rs.length with h0 | h0
  · intro i hi
    have hi' : i < rs.length := hi
    omega
  · obtain ⟨b', o', e, h1⟩ := h.val hr h0
    injection e with e
    injection e with e1 e2
    subst e1 e2
    exact h1
theorem sys_size {n N : Nat} {rs : List RRow} (hr : rightRows n rs = true) (hs : ∀ r ∈ rs, r.sz N) (h1 : 1 ≤ N) : (∀ i c, i < (sysOf n rs).m → c < (sysOf n rs).n → Qn N ((sysOf n rs).A i c)) ∧ ∀ i, i < (sysOf n rs).m → Qn N ((sysOf n rs).most i) := by
  refine ⟨fun i c hi hc => ?_, fun i hi => ?_⟩
  · have hi' : i < rs.length := hi
    obtain ⟨hl, _, hx⟩ := right_row hr hi'
    have hc' : c < rs[i].xs.length := by rw [hl]; exact hc
    have e : (sysOf n rs).A i c = rs[i].xs[c].q := by
      show timesQ rs i c = _
      simp [timesQ, List.getElem?_eq_getElem hi', List.getElem?_eq_getElem hc']
    rw [e]
    exact RFr.size (hx _ (List.getElem_mem hc')) ((hs _ (List.getElem_mem hi')).2 _ (List.getElem_mem hc')) h1
  · have hi' : i < rs.length := hi
    obtain ⟨_, hm, _⟩ := right_row hr hi'
    have e : (sysOf n rs).most i = rs[i].most.q := by
      show mostQ rs i = _
      simp [mostQ, List.getElem?_eq_getElem hi']
    rw [e]
    exact RFr.size hm (hs _ (List.getElem_mem hi')).1 h1
theorem fit_sz {S : Sys} {x : Nat → Rat} {k M : Nat} (hn : S.n ≤ 8) (hm : S.m ≤ 1000) (hk : k ≤ 100) (hM1 : M ≤ 1000) (hA : ∀ i c, i < S.m → c < S.n → Qn k (S.A i c)) (hx : ∀ c, c < S.n → Qn 2000000 (x c)) (hM : ∀ i, i < S.m → Qn M (S.most i)) : FitSz S x := by
  exact FitSz.of (k1 := 100) (k2 := 2000000) (k3 := M) (Nat.le_trans hn (by decide)) hm (fun i c hi hc => Qn.mono (hA i c hi hc) hk) hx hM (by clear hA hx hM hm; omega) (Nat.le_trans hM1 (by decide))
theorem nev_sz {S : Sys} {y : Nat → Rat} (hn : S.n ≤ 8) (hm : S.m ≤ 64) (hA : ∀ i c, i < S.m → c < S.n → Qn 1 (S.A i c)) (hy : ∀ i, i < S.m → Qn 87381 (y i)) (hM : ∀ i, i < S.m → Qn 1 (S.most i)) : NevSz S y := by
  exact NevSz.of (k1 := 1) (k2 := 87381) (k3 := 1) (Nat.le_trans hn (by decide)) (Nat.le_trans hm (by decide)) hA hy hM (by clear hA hy hM; omega) (by clear hA hy hM; omega)
theorem right_nat {U : Int} {rs : List RRow} (h : rightRows U rs = true) : ∃ n : Nat, U = (n : Int) ∧ n ≤ 1000 := by
  unfold rightRows at h
  simp only [Bool.and_eq_true, decide_eq_true_eq] at h
  exact ⟨U.toNat, by omega, by omega⟩

set_option maxRecDepth 100000 in
set_option maxHeartbeats 12800000 in
theorem solves_walk (U : Int) (a : Option Addr) (cap : Nat) (rs : List RRow) (w : World) (hx : RowsAt w a rs) (ht : Tab w) :
    Calls Tryz.prog 3 #[.int .i64 U, .slice a rs.length cap] w fun e w' => e = .returned (.bool true) ∧ Below w.heap.size w w' := by
  have HX := hide hx
  have HT := hide ht
  clear hx ht
  go_enter Tryz.func3, Tryz.ntmps3
  go_wp2_with fail
  refine (spx_any w HT.out).mono ?_
  rintro e w1 ⟨rfl, hb1⟩
  have hx1 := HX.out.below hb1 (Nat.le_refl _)
  go_wp2_with fail
  refine (great_any U a cap rs w1 hx1).mono ?_
  rintro e w2 ⟨hb2, g, rfl, hg⟩
  have sb2 := hb1.trans (hb2.mono hb1.size)
  cases g with
  | true =>
    go_wp2_with fail
    go_ret
    exact ⟨rfl, sb2⟩
  | false =>
    obtain ⟨h8, h16, hrs⟩ := hg rfl
    have HRS := hide hrs
    have hx2 := hx1.below hb2 (Nat.le_refl _)
    have hsz : ∀ r ∈ rs, r.sz 1000000000 := fun r hr => by
      have h := (HRS.out r hr).2
      exact ⟨⟨Nat.le_trans h.1.1 (by decide), Nat.le_trans h.1.2 (by decide)⟩, fun R hR => ⟨Nat.le_trans (h.2 R hR).1 (by decide), Nat.le_trans (h.2 R hR).2 (by decide)⟩⟩
    have hxl : ∀ r ∈ rs, r.xs.length ≤ 1000000 := fun r hr => Nat.le_trans (HRS.out r hr).1 (by decide)
    have hfair : rightRows U rs = true → Fair (sysOf U.toNat rs) 1 1 := fun h => by
      obtain ⟨n, rfl, _⟩ := right_nat h
      have e : ((n : Int)).toNat = n := by omega
      rw [e]
      obtain ⟨h1, h2⟩ := sys_size (N := 1) h (fun r hr => (HRS.out r hr).2) (Nat.le_refl _)
      exact { n := by show n ≤ 8; omega, m := by show rs.length ≤ 64; omega, sLe := by decide, MLe := by decide, A := h1, most := h2 }
    have HSOL := hide (solve_any (s := 1) (M := 1) U a cap rs w2 hx2 hsz (by omega) hxl hfair)
    have HSZ := hide hsz
    have HXL := hide hxl
    have HFAIR := hide hfair
    clear hrs hg hsz hxl hfair hx1 hb1 hb2
    go_wp2_with fail
    refine HSOL.out.mono ?_
    rintro e w3 ⟨hb3, hres⟩
    have sb3 := sb2.trans (hb3.mono sb2.size)
    have hx3 := hx2.below hb3 (Nat.le_refl _)
    clear HSOL hx2
    rcases hres with ⟨hbad, rfl⟩ | ⟨hok, v, rfl, hans⟩
    · obtain ⟨v5, hv5⟩ : ∃ v5, w3.alloc (.cells #[.slice none 0 0, .slice none 0 0] 27) = v5 := ⟨_, rfl⟩
      obtain ⟨gX, hgX⟩ : ∃ gX, w3.heap.size = gX := ⟨_, rfl⟩
      have bX : Blk v5 gX 27 #[.slice none 0 0, .slice none 0 0] := by rw [← hv5, ← hgX]; exact Blk.new _ _ _
      have sX : Below w3.heap.size w3 v5 := by rw [← hv5]; exact (Below.refl _ _).alloc (Nat.le_refl _) _
      have hx5 := hx3.below sX (Nat.le_refl _)
      have sb5 := sb3.trans (sX.mono sb3.size)
      have HV5 := hide hv5
      have HGX := hide hgX
      have HBAD := hide hbad
      clear hv5 hgX sX hx3 hbad
      go_upto_region 6 with (fail)
      rw [HV5.out, HGX.out]
      clear HV5 HGX
      go_wp2_with fail
      refine (rows_any a cap rs v5 hx5 (by omega)).mono ?_
      rintro e w6 ⟨hb6, gL, kL, hgL, rfl, hxL⟩
      have sb6 := sb5.trans (hb6.mono sb5.size)
      have b6 := bX.below hb6 bX.lt
      go_wp2_with fail
      refine (rright_any U _ kL rs w6 hxL HSZ.out (by omega) HXL.out HBAD.out).mono ?_
      rintro e w7 ⟨rfl, hb7⟩
      have sb7 := sb6.trans (hb7.mono sb6.size)
      obtain ⟨c0, c1, -⟩ := (b6.below hb7 b6.lt).c2
      go_wp2_with fail
      go_ret
      exact ⟨rfl, sb7⟩
    · obtain ⟨n, rfl, hn⟩ := right_nat hok
      have hn8 : n ≤ 8 := by omega
      have hto : ((n : Int)).toNat = n := by omega
      rw [hto] at hans
      have hf := HFAIR.out hok
      rw [hto] at hf
      have hq := hans.q (SameSys.refl _) (Nat.le_refl _) (Nat.le_refl _) hf.A hf.most
      have HQ := hide hq
      have HFF := hide hf
      have HOK := hide hok
      clear hans hto hq hf hok HFAIR
      rcases HQ.out with ⟨x, hfit, hxs, g, hg, rfl, hat⟩ | ⟨y, hnev, hys, hm0, _, g, hg, rfl, hat⟩
      · have en : (sysOf n rs).n = n := rfl
        have hfit' := hide hfit
        have hxs' := hide hxs
        clear HQ hfit hxs
        rw [en] at hat ⊢
        obtain ⟨v5, hv5⟩ : ∃ v5, w3.alloc (.cells #[.slice (some ⟨g, 0, none⟩) n n, .slice none 0 0] 27) = v5 := ⟨_, rfl⟩
        obtain ⟨gX, hgX⟩ : ∃ gX, w3.heap.size = gX := ⟨_, rfl⟩
        have bX : Blk v5 gX 27 #[.slice (some ⟨g, 0, none⟩) n n, .slice none 0 0] := by rw [← hv5, ← hgX]; exact Blk.new _ _ _
        have sX : Below w3.heap.size w3 v5 := by rw [← hv5]; exact (Below.refl _ _).alloc (Nat.le_refl _) _
        have hx5 := hx3.below sX (Nat.le_refl _)
        have hat5 : ∀ c, c < n → FAt v5 g (c * 4) (x c) := fun c hc => (hat c hc).below sX (Nat.le_refl _)
        have sb5 := sb3.trans (sX.mono sb3.size)
        have HAT5 := hide hat5
        have HV5 := hide hv5
        have HGX := hide hgX
        clear hv5 hgX sX hx3 hat hat5 en
        go_upto_region 6 with (fail)
        rw [HV5.out, HGX.out]
        clear HV5 HGX
        go_wp2_with fail
        refine (rows_any a cap rs v5 hx5 (by omega)).mono ?_
        rintro e w6 ⟨hb6, gL, kL, hgL, rfl, hxL⟩
        have sb6 := sb5.trans (hb6.mono sb5.size)
        have b6 := bX.below hb6 bX.lt
        go_wp2_with fail
        refine (rright_any (n : Int) _ kL rs w6 hxL HSZ.out (by omega) HXL.out HOK.out).mono ?_
        rintro e w7 ⟨rfl, hb7⟩
        have sb7 := sb6.trans (hb7.mono sb6.size)
        have b7 := b6.below hb7 b6.lt
        have hxL7 := hxL.below hb7 (Nat.le_refl _)
        have HAT7 : Hid (∀ c, c < n → FAt w7 g (c * 4) (x c)) := hide (fun c hc => ((HAT5.out c hc).below hb6 (Nat.le_refl _)).below hb7 (Nat.le_refl _))
        have HXV := hide (hxL7.val2 HOK.out)
        obtain ⟨c0, c1, -⟩ := b7.c2
        clear HAT5 hxL hxL7 hb6 hb7 hx5 sb5 sb6 b6
        go_wp2_with fail
        go_loopg [61] n (fun k v61 wr => ∃ c : Nat, c + k = n ∧ v61 = .int .i64 (c : Int) ∧ Below w7.heap.size w7 wr)
        case atStart => exact ⟨0, by omega, rfl, Below.refl _ _⟩
        case round =>
          obtain ⟨c, hck, rfl, hB⟩ := hrel
          rcases Nat.eq_zero_or_pos gk with h0 | h0
          · subst h0
            obtain rfl : c = n := by omega
            have hfz : FitSz (sysOf c rs) x := fit_sz (k := 1) (M := 1) hn8 (Nat.le_trans h16 (by decide)) (by decide) (by decide) HFF.out.A (fun i hi => Qn.mono (hxs'.out i hi) (Nat.le_trans (k2_le hn8) (by decide))) HFF.out.most
            have hc : Calls Tryz.prog 13 #[.slice (some ⟨gL, 0, none⟩) rs.length kL, .slice (some ⟨g, 0, none⟩) c c] wr _ :=
              rfits_any (S := sysOf c rs) (b := gL) (o := 0) (gv := g) (ov := 0) wr hfz (fun _ => rfl) (HXV.out.below hB (Nat.le_refl _)) (fun _ => rfl) (fun i hi => by rw [Nat.zero_add]; exact (HAT7.out i hi).below hB (Nat.le_refl _)) hfit'.out
            have HC := hide hc
            have sb8 := sb7.trans (hB.mono sb7.size)
            obtain ⟨d0, d1, -⟩ := (b7.below hB b7.lt).c2
            clear c0 c1 hfz hc hck
            go_wp2_with fail
            refine HC.out.mono ?_
            rintro e w9 ⟨rfl, hb9⟩
            have sb9 := sb8.trans (hb9.mono sb8.size)
            clear d0 d1
            go_wp2_with fail
            go_ret
            exact ⟨rfl, sb9⟩
          · have hc : c < n := by omega
            have ec : (c : Int) < (n : Int) := by omega
            obtain ⟨R, hRat, hRf, _, hRs⟩ := ((HAT7.out c hc).below hB (Nat.le_refl _)).raw (N := 1000000000) (Qn.mono (hxs'.out c hc) (Nat.le_trans (k2_le hn8) (by decide))) (by decide)
            obtain ⟨x0, x1, x2, x3, hok⟩ := hRat
            have HRF := hide hRf
            obtain ⟨W2, hW2⟩ : ∃ W2, wr.alloc (.cells #[.bool R.up.neg, .slice R.up.at_ R.up.ds.length R.up.cap, .bool R.dn.neg, .slice R.dn.at_ R.dn.ds.length R.dn.cap] 39) = W2 := ⟨_, rfl⟩
            have bf : Blk W2 wr.heap.size 39 #[.bool R.up.neg, .slice R.up.at_ R.up.ds.length R.up.cap, .bool R.dn.neg, .slice R.dn.at_ R.dn.ds.length R.dn.cap] := by rw [← hW2]; exact Blk.new _ _ _
            have hb5 : Below wr.heap.size wr W2 := by rw [← hW2]; exact (Below.refl _ _).alloc (Nat.le_refl _) _
            obtain ⟨gf, hgf⟩ : ∃ gf, wr.heap.size = gf := ⟨_, rfl⟩
            have hok2 := hok.below hb5 (Nat.le_refl _)
            have hB2 := hB.trans (hb5.mono hB.size)
            rw [hgf] at bf
            have HW2 := hide hW2
            have HGF := hide hgf
            clear hW2 hgf hRf hb5 hok hB c0 c1
            go_upto_region 16 with (fail)
            rw [HW2.out, HGF.out]
            clear HW2 HGF x0 x1 x2 x3
            obtain ⟨z0, z1, z2, z3, -⟩ := bf.c4
            go_wp2_with fail
            refine (rr_at R hok2 hRs HRF.out).mono ?_
            rintro e w8 ⟨rfl, hb8⟩
            have hB3 := hB2.trans (hb8.mono hB2.size)
            clear z0 z1 z2 z3
            go_wp2_with fail
            go_roundg (gk - 1)
            case measure => omega
            case rel => exact ⟨c + 1, by omega, by go_num, hB3⟩
      · have em : (sysOf n rs).m = rs.length := rfl
        have hnev' := hide hnev
        have hys' := hide hys
        clear HQ hnev hys
        rw [em] at hat hm0 ⊢
        obtain ⟨v5, hv5⟩ : ∃ v5, w3.alloc (.cells #[.slice none 0 0, .slice (some ⟨g, 0, none⟩) rs.length rs.length] 27) = v5 := ⟨_, rfl⟩
        obtain ⟨gX, hgX⟩ : ∃ gX, w3.heap.size = gX := ⟨_, rfl⟩
        have bX : Blk v5 gX 27 #[.slice none 0 0, .slice (some ⟨g, 0, none⟩) rs.length rs.length] := by rw [← hv5, ← hgX]; exact Blk.new _ _ _
        have sX : Below w3.heap.size w3 v5 := by rw [← hv5]; exact (Below.refl _ _).alloc (Nat.le_refl _) _
        have hx5 := hx3.below sX (Nat.le_refl _)
        have hat5 : ∀ c, c < rs.length → FAt v5 g (c * 4) (y c) := fun c hc => (hat c hc).below sX (Nat.le_refl _)
        have sb5 := sb3.trans (sX.mono sb3.size)
        have HAT5 := hide hat5
        have HV5 := hide hv5
        have HGX := hide hgX
        clear hv5 hgX sX hx3 hat hat5 em
        go_upto_region 6 with (fail)
        rw [HV5.out, HGX.out]
        clear HV5 HGX
        go_wp2_with fail
        refine (rows_any a cap rs v5 hx5 (by omega)).mono ?_
        rintro e w6 ⟨hb6, gL, kL, hgL, rfl, hxL⟩
        have sb6 := sb5.trans (hb6.mono sb5.size)
        have b6 := bX.below hb6 bX.lt
        go_wp2_with fail
        refine (rright_any (n : Int) _ kL rs w6 hxL HSZ.out (by omega) HXL.out HOK.out).mono ?_
        rintro e w7 ⟨rfl, hb7⟩
        have sb7 := sb6.trans (hb7.mono sb6.size)
        have b7 := b6.below hb7 b6.lt
        have hxL7 := hxL.below hb7 (Nat.le_refl _)
        have HAT7 : Hid (∀ c, c < rs.length → FAt w7 g (c * 4) (y c)) := hide (fun c hc => ((HAT5.out c hc).below hb6 (Nat.le_refl _)).below hb7 (Nat.le_refl _))
        have HXV := hide (hxL7.val2 HOK.out)
        have hnz : NevSz (sysOf n rs) y := nev_sz hn8 (Nat.le_trans h16 (by decide)) HFF.out.A (fun i hi => Qn.mono (hys'.out i hi) (sz1 hn8)) HFF.out.most
        have hc : Calls Tryz.prog 11 #[.int .i64 (n : Int), .slice (some ⟨gL, 0, none⟩) rs.length kL, .slice (some ⟨g, 0, none⟩) rs.length rs.length] w7 _ :=
          rnever_any (S := sysOf n rs) (b := gL) (o := 0) (gy := g) (oy := 0) w7 hnz (fun _ => rfl) HXV.out (fun _ => rfl) (fun i hi => by rw [Nat.zero_add]; exact HAT7.out i hi) hnev'.out
        have HC := hide hc
        have e1 : decide (0 < (rs.length : Int)) = true := decide_eq_true (by omega)
        have e2 : decide (0 < rs.length) = true := decide_eq_true hm0
        obtain ⟨c0, c1, -⟩ := b7.c2
        clear HAT5 hxL hxL7 hb6 hb7 hx5 sb5 sb6 b6 hc hnz
        go_wp2_with fail
        refine HC.out.mono ?_
        rintro e w9 ⟨rfl, hb9⟩
        have sb9 := sb7.trans (hb9.mono sb7.size)
        clear c0 c1
        go_wp2_with fail
        go_ret
        exact ⟨rfl, sb9⟩
end Go.Proofs.YtphjffbldhhdiaaGreatDoor
