/- The walk of the law SimplexScaled. -/
import Derived.Test.YtphjffbldhhdiaaGreatDoorSxRowC
namespace Go.Proofs.YtphjffbldhhdiaaGreatDoor
open Go.RowKit

theorem RFrAt.st4 {w : World} {g : Nat} {t : TypeId} {n m : Bool} {a b : Option Addr} {l k i j : Nat} {R : RFr} (h : RFrOk w R) (hB : Blk w g t #[.bool n, .slice a l k, .bool m, .slice b i j]) :
    RFrAt ((((w.setCell ⟨g, 0, none⟩ (.bool R.up.neg)).setCell ⟨g, 1, none⟩ (.slice R.up.at_ R.up.ds.length R.up.cap)).setCell ⟨g, 2, none⟩ (.bool R.dn.neg)).setCell ⟨g, 3, none⟩ (.slice R.dn.at_ R.dn.ds.length R.dn.cap)) g 0 R := by
  obtain ⟨e0, e1, e2, e3, -⟩ := (hB.four (.bool R.up.neg) (.slice R.up.at_ R.up.ds.length R.up.cap) (.bool R.dn.neg) (.slice R.dn.at_ R.dn.ds.length R.dn.cap)).c4
  have key : ∀ {A : Option Addr} {ds : List Nat}, Dg .u32 w A ds → Dg .u32 ((((w.setCell ⟨g, 0, none⟩ (.bool R.up.neg)).setCell ⟨g, 1, none⟩ (.slice R.up.at_ R.up.ds.length R.up.cap)).setCell ⟨g, 2, none⟩ (.bool R.dn.neg)).setCell ⟨g, 3, none⟩ (.slice R.dn.at_ R.dn.ds.length R.dn.cap)) A ds := fun {A ds} hd hn => by
    obtain ⟨b', off, e, hc⟩ := hd hn
    refine ⟨b', off, e, fun i' hi' => ?_⟩
    have hc' := hc i' hi'
    have hne : ∀ d v, w.cell? ⟨g, d, none⟩ = some v → (∀ z, v ≠ .int .u32 z) → (⟨g, d, none⟩ : Addr) ≠ ⟨b', off + i', none⟩ := fun d v hv hz e => by
      rw [← e, hv] at hc'
      exact hz _ (Option.some.inj hc')
    obtain ⟨z0, z1, z2, z3, -⟩ := hB.c4
    rw [World.cell?_setCell_other _ _ _ _ (hne 3 _ z3 (fun z e => by cases e)), World.cell?_setCell_other _ _ _ _ (hne 2 _ z2 (fun z e => by cases e)), World.cell?_setCell_other _ _ _ _ (hne 1 _ z1 (fun z e => by cases e)), World.cell?_setCell_other _ _ _ _ (hne 0 _ z0 (fun z e => by cases e))]
    exact hc'
  exact ⟨e0, e1, e2, e3, ⟨⟨key h.up.dig, h.up.fit, h.up.max⟩, ⟨key h.dn.dig, h.dn.fit, h.dn.max⟩⟩⟩
theorem RFr.pos {R : RFr} (hf : R.fr = true) (h1 : R.up.ds.length = 1) (hn : R.up.neg = false) : 0 < R.q := by
  obtain ⟨e1, e2, _, _⟩ := RFr.spec hf
  rw [hn] at e1
  have h2 : ¬R.q.num < 0 := of_decide_eq_false e1.symm
  have h3 : R.q.num ≠ 0 := fun e => by
    rw [e] at e2
    rw [e2] at h1
    exact absurd h1 (by decide)
  have h4 : 0 < R.q.num := by omega
  have h5 : 0 ≤ R.q := Rat.num_nonneg.1 (by omega)
  have h6 : R.q ≠ 0 := fun e => h3 (by rw [e]; rfl)
  grind
theorem sz2 {n : Nat} (hn : n ≤ 8) : szB 2 n ≤ 152917 := Nat.le_trans (szB_mono hn) (by simp only [szB]; omega)
theorem k22_le {n : Nat} (hn : n ≤ 8) : n * (szB 2 n + 2 + 1) + 2 + 1 ≤ 2000000 := by
  have h := sz2 hn
  have : n * (szB 2 n + 2 + 1) ≤ 8 * (szB 2 n + 2 + 1) := Nat.mul_le_mul_right _ hn
  omega

set_option maxRecDepth 100000 in
set_option maxHeartbeats 12800000 in
theorem scaled_walk (U : Int) (a : Option Addr) (cap : Nat) (rs : List RRow) (at_ : Option Addr) (ct : Nat) (ts : List RFr) (w : World) (hx : RowsAt w a rs) (hl : rs.length * 88 ≤ 140737488351232) (hts : ListAt w at_ ts) (ht : Tab w) :
    Calls Tryz.prog 5 #[.int .i64 U, .slice a rs.length cap, .slice at_ ts.length ct] w fun e w' => e = .returned (.bool true) ∧ Below w.heap.size w w' := by
  have HX := hide hx
  have HT := hide ht
  have HTS := hide hts
  clear hx ht hts
  go_enter Tryz.func5, Tryz.ntmps5
  go_wp2_with fail
  refine (spx_any w HT.out).mono ?_
  rintro e w1 ⟨rfl, hb1⟩
  have hx1 := HX.out.below hb1 (Nat.le_refl _)
  go_wp2_with fail
  refine (rows_any a cap rs w1 hx1 hl).mono ?_
  rintro e w2 ⟨hb2, gL, kL, hgL, rfl, hxL⟩
  have sb2 := hb1.trans (hb2.mono hb1.size)
  have hx2 := hx1.below hb2 (Nat.le_refl _)
  clear hx1 hb2 hb1 hgL
  go_wp2_with fail
  refine (great_any U a cap rs w2 hx2).mono ?_
  rintro e w3 ⟨hb3, g, rfl, hg⟩
  have sb3 := sb2.trans (hb3.mono sb2.size)
  cases g with
  | true =>
    go_wp2_with fail
    go_ret
    exact ⟨rfl, sb3⟩
  | false =>
    obtain ⟨h8, h16, hrs⟩ := hg rfl
    have HRS := hide hrs
    have hxL3 := hxL.below hb3 (Nat.le_refl _)
    clear hg hrs hx2 hxL hb3
    rcases Nat.lt_or_ge 10 rs.length with h10 | h10
    · have e1 : decide (10 < (rs.length : Int)) = true := decide_eq_true (by omega)
      go_wp2_with fail
      go_ret
      exact ⟨rfl, sb3⟩
    · have e1 : decide (10 < (rs.length : Int)) = false := decide_eq_false (by omega)
      have e2 : ¬10 < (rs.length : Int) := by omega
      rcases Nat.lt_or_ge 20 ts.length with h20 | h20
      · have e3 : decide (20 < (ts.length : Int)) = true := decide_eq_true (by omega)
        go_wp2_with fail
        go_ret
        exact ⟨rfl, sb3⟩
      · have e3 : decide (20 < (ts.length : Int)) = false := decide_eq_false (by omega)
        have e4 : ¬20 < (ts.length : Int) := by omega
        have hsz : ∀ r ∈ rs, r.sz 1000000000 := fun r hr => by
          have h := (HRS.out r hr).2
          exact ⟨⟨Nat.le_trans h.1.1 (by decide), Nat.le_trans h.1.2 (by decide)⟩, fun R hR => ⟨Nat.le_trans (h.2 R hR).1 (by decide), Nat.le_trans (h.2 R hR).2 (by decide)⟩⟩
        have hxl : ∀ r ∈ rs, r.xs.length ≤ 1000000 := fun r hr => Nat.le_trans (HRS.out r hr).1 (by decide)
        cases hok : rightRows U rs with
        | false =>
          have HR := hide (rright_any U (some ⟨gL, 0, none⟩) kL rs w3 hxL3 hsz (by omega) hxl hok)
          clear hok hsz hxl
          go_wp2_with fail
          refine HR.out.mono ?_
          rintro e w4 ⟨rfl, hb4⟩
          have sb4 := sb3.trans (hb4.mono sb3.size)
          go_wp2_with fail
          go_ret
          exact ⟨rfl, sb4⟩
        | true =>
          have HR := hide (rright_any U (some ⟨gL, 0, none⟩) kL rs w3 hxL3 hsz (by omega) hxl hok)
          obtain ⟨n, rfl, hn⟩ := right_nat hok
          have hn8 : n ≤ 8 := by omega
          obtain ⟨hA, hM⟩ := sys_size (N := 1) hok (fun r hr => (HRS.out r hr).2) (Nat.le_refl _)
          have hRVw : ∃ b o, (0 < (sysOf n rs).m → a = some ⟨b, o, none⟩) ∧ RowsV w b o (sysOf n rs) := by
            rcases Nat.eq_zero_or_pos rs.length with h0 | h0
            · exact ⟨0, 0, fun h => by have h : 0 < rs.length := h; omega, fun i hi => by have hi : i < rs.length := hi; omega⟩
            · obtain ⟨b, o, e, h⟩ := HX.out.val hok h0
              exact ⟨b, o, fun _ => e, h⟩
          have hLV := hxL3.val2 hok
          obtain ⟨S, hS⟩ : ∃ S, sysOf n rs = S := ⟨_, rfl⟩
          have hSn : S.n = n := by rw [← hS]; rfl
          have hSm : S.m = rs.length := by rw [← hS]; rfl
          rw [hS] at hA hM hRVw hLV
          subst hSn
          obtain ⟨m, hm⟩ : ∃ m, rs.length = m := ⟨_, rfl⟩
          rw [hm] at hSm h10 e1 e2 hl HR h16 ⊢
          obtain rfl := hSm
          obtain ⟨b, o, ha, hRV⟩ := hRVw
          have HSA := hide hA
          have HSM := hide hM
          have HAA := hide ha
          have HRV := hide hRV
          have HLV := hide hLV
          clear hA hM ha hRV hS hm hsz hxl hxL3 hLV hok HRS HX
          go_wp2_with fail
          refine HR.out.mono ?_
          rintro e w4 ⟨rfl, hb4⟩
          have sb4 := sb3.trans (hb4.mono sb3.size)
          have hLV4 := hide (HLV.out.below hb4 (Nat.le_refl _))
          clear HR hb4 sb3
          obtain ⟨w5, hw5⟩ : ∃ w5, w4.alloc (.cells #[] 43) = w5 := ⟨_, rfl⟩
          obtain ⟨g5, hg5⟩ : ∃ g5, w4.heap.size = g5 := ⟨_, rfl⟩
          have hb5 : Below w4.heap.size w4 w5 := by rw [← hw5]; exact (Below.refl _ _).alloc (Nat.le_refl _) _
          have sb5 := sb4.trans (hb5.mono sb4.size)
          have hLV5 := hide (hLV4.out.below hb5 (Nat.le_refl _))
          have HW5 := hide hw5
          have HG5 := hide hg5
          clear hw5 hg5 hLV4 HLV hb5 sb4 e1 e2 e3 e4
          go_upto_region 7 with (fail)
          rw [HW5.out, HG5.out]
          clear HW5 HG5
          go_wp2_with fail
          go_loopg [8, 45] S.m (fun k v8 v45 wr => ∃ (j go co : Nat) (q : Nat → Rat), j + k = S.m ∧ v45 = .int .i64 (j : Int) ∧ v8 = .slice (some ⟨go, 0, none⟩) j co ∧ Below w5.heap.size w5 wr ∧ Hid (∀ i, i < j → 0 < q i ∧ Qn 1 (q i)) ∧ Hid (RowsV wr go 0 (scS S q j)))
          case atStart => exact ⟨0, g5, 0, fun _ => 1, by omega, rfl, rfl, Below.refl _ _, hide (fun i h => absurd h (Nat.not_lt_zero _)), hide (fun i hi => absurd hi (Nat.not_lt_zero _))⟩
          case round =>
            obtain ⟨j, go, co, q, hjk, rfl, rfl, hB, HQ, HO⟩ := hrel
            have sbr := sb5.trans (hB.mono sb5.size)
            rcases Nat.eq_zero_or_pos gk with h0 | h0
            · subst h0
              obtain rfl : j = S.m := by omega
              have hf1 : Fair S 1 1 := { n := hn8, m := by omega, sLe := by decide, MLe := by decide, A := HSA.out, most := HSM.out }
              have hf2 : Fair (scS S q S.m) 2 2 := {
                n := hn8, m := by show S.m ≤ 64; omega, sLe := by decide, MLe := by decide,
                A := fun i c hi hc => by
                  have hi' : i < S.m := hi
                  exact Qn.mul (HQ.out _ (by omega)).2 (HSA.out _ c (by omega) hc)
                most := fun i hi => by
                  have hi' : i < S.m := hi
                  exact Qn.mul (HQ.out _ (by omega)).2 (HSM.out _ (by omega)) }
              have hs1 := solve_q (a := a) (cap := cap) wr hf1 (Nat.le_refl _) (Nat.le_refl _) HAA.out (HRV.out.below sbr (Nat.le_refl _))
              have HS1 := hide hs1
              have HF1 := hide hf1
              have HF2 := hide hf2
              clear hs1 hf1 hf2 hjk
              go_wp2_with fail
              refine HS1.out.mono ?_
              rintro e w6 ⟨hb6, v1, rfl, hq1⟩
              have sb6 := sbr.trans (hb6.mono sbr.size)
              have HSC : Hid (∀ x, (scS S q S.m).Fits x ↔ S.Fits x) := hide (fun x => scS_fits (fun i hi => (HQ.out i hi).1))
              rcases hq1 with ⟨x1, hfit1, _, g1, _, rfl, _⟩ | ⟨y1, hnev1, _, hm0, _, g1, _, rfl, _⟩
              · have HX1 := hide hfit1
                clear hfit1
                obtain ⟨w7, hw7⟩ : ∃ w7, w6.alloc (.cells #[.slice (some ⟨g1, 0, none⟩) S.n S.n, .slice none 0 0] 27) = w7 := ⟨_, rfl⟩
                obtain ⟨gA, hgA⟩ : ∃ gA, w6.heap.size = gA := ⟨_, rfl⟩
                have bA : Blk w7 gA 27 #[.slice (some ⟨g1, 0, none⟩) S.n S.n, .slice none 0 0] := by rw [← hw7, ← hgA]; exact Blk.new _ _ _
                have hb7 : Below w6.heap.size w6 w7 := by rw [← hw7]; exact (Below.refl _ _).alloc (Nat.le_refl _) _
                have sb7 := sb6.trans (hb7.mono sb6.size)
                have hs2 : Calls Tryz.prog 8 #[.int .i64 (S.n : Int), .slice (some ⟨go, 0, none⟩) S.m co] w7 (SolveQ w7 (scS S q S.m) _ _) := solve_q (S := scS S q S.m) (a := some ⟨go, 0, none⟩) (cap := co) w7 HF2.out (by decide) (by decide) (fun _ => rfl) ((HO.out.below hb6 (Nat.le_refl _)).below hb7 (Nat.le_refl _))
                have HS2 := hide hs2
                have HW7 := hide hw7
                have HGA := hide hgA
                clear hw7 hgA hs2
                go_upto_region 24 with (fail)
                rw [HW7.out, HGA.out]
                clear HW7
                go_wp2_with fail
                refine HS2.out.mono ?_
                rintro e w8 ⟨hb8, v2, rfl, hq2⟩
                have sb8 := sb7.trans (hb8.mono sb7.size)
                have bA8 := bA.below hb8 bA.lt
                rcases hq2 with ⟨x2, hfit2, hxs2, g2, hg2, rfl, hat2⟩ | ⟨y2, hnev2, _⟩
                · have hfS := (HSC.out x2).1 hfit2
                  have hat2' : ∀ c, c < S.n → FAt w8 g2 (c * 4) (x2 c) := hat2
                  have hxs2' : ∀ c, c < S.n → Qn (S.n * (szB 2 S.n + 2 + 1) + 2 + 1) (x2 c) := hxs2
                  obtain ⟨w9, hw9⟩ : ∃ w9, w8.alloc (.cells #[.slice (some ⟨g2, 0, none⟩) S.n S.n, .slice none 0 0] 27) = w9 := ⟨_, rfl⟩
                  obtain ⟨gB, hgB⟩ : ∃ gB, w8.heap.size = gB := ⟨_, rfl⟩
                  have bB : Blk w9 gB 27 #[.slice (some ⟨g2, 0, none⟩) S.n S.n, .slice none 0 0] := by rw [← hw9, ← hgB]; exact Blk.new _ _ _
                  have hb9 : Below w8.heap.size w8 w9 := by rw [← hw9]; exact (Below.refl _ _).alloc (Nat.le_refl _) _
                  have sb9 := sb8.trans (hb9.mono sb8.size)
                  have hsz : FitSz S x2 := fit_sz (k := 1) (M := 1) hn8 (by omega) (by decide) (by decide) HSA.out (fun c hc => Qn.mono (hxs2' c hc) (k22_le hn8)) HSM.out
                  have hlv : RowsV w9 gL 0 S := ((((hLV5.out.below hB (Nat.le_refl _)).below hb6 (Nat.le_refl _)).below hb7 (Nat.le_refl _)).below hb8 (Nat.le_refl _)).below hb9 (Nat.le_refl _)
                  have hfc := rfits_any (cap := kL) (capv := S.n) (a := some ⟨gL, 0, none⟩) (av := some ⟨g2, 0, none⟩) (gv := g2) (ov := 0) w9 hsz (fun _ => rfl) hlv (fun _ => rfl) (fun i hi => by rw [Nat.zero_add]; exact (hat2' i hi).below hb9 (Nat.le_refl _)) hfS
                  have HFC := hide hfc
                  have bA9 := bA8.below hb9 bA8.lt
                  have HW9 := hide hw9
                  have HGB := hide hgB
                  obtain ⟨a0, a1, -⟩ := bA9.c2
                  obtain ⟨b0, b1, -⟩ := bB.c2
                  clear hw9 hgB hfc hlv hat2 hat2' hxs2 hxs2' hfit2
                  go_upto_region 25 with (fail)
                  have en : (scS S q S.m).n = S.n := rfl
                  try rw [en]
                  rw [HW9.out, HGB.out]
                  clear HW9 HGB en
                  go_wp2_with fail
                  refine HFC.out.mono ?_
                  rintro e w10 ⟨rfl, hb10⟩
                  have sb10 := sb9.trans (hb10.mono sb9.size)
                  clear a0 a1 b0 b1
                  go_wp2_with fail
                  go_ret
                  exact ⟨rfl, sb10⟩
                · exact (hnev2.no ((HSC.out x1).2 HX1.out)).elim
              · have HY1 := hide hnev1
                clear hnev1
                have e1 : decide (0 < (S.m : Int)) = true := decide_eq_true (by omega)
                have e2 : decide (0 < S.m) = true := decide_eq_true hm0
                obtain ⟨w7, hw7⟩ : ∃ w7, w6.alloc (.cells #[.slice none 0 0, .slice (some ⟨g1, 0, none⟩) S.m S.m] 27) = w7 := ⟨_, rfl⟩
                obtain ⟨gA, hgA⟩ : ∃ gA, w6.heap.size = gA := ⟨_, rfl⟩
                have bA : Blk w7 gA 27 #[.slice none 0 0, .slice (some ⟨g1, 0, none⟩) S.m S.m] := by rw [← hw7, ← hgA]; exact Blk.new _ _ _
                have hb7 : Below w6.heap.size w6 w7 := by rw [← hw7]; exact (Below.refl _ _).alloc (Nat.le_refl _) _
                have sb7 := sb6.trans (hb7.mono sb6.size)
                have hs2 : Calls Tryz.prog 8 #[.int .i64 (S.n : Int), .slice (some ⟨go, 0, none⟩) S.m co] w7 (SolveQ w7 (scS S q S.m) _ _) := solve_q (S := scS S q S.m) (a := some ⟨go, 0, none⟩) (cap := co) w7 HF2.out (by decide) (by decide) (fun _ => rfl) ((HO.out.below hb6 (Nat.le_refl _)).below hb7 (Nat.le_refl _))
                have HS2 := hide hs2
                have HW7 := hide hw7
                have HGA := hide hgA
                clear hw7 hgA hs2
                go_upto_region 24 with (fail)
                rw [HW7.out, HGA.out]
                clear HW7
                go_wp2_with fail
                refine HS2.out.mono ?_
                rintro e w8 ⟨hb8, v2, rfl, hq2⟩
                have sb8 := sb7.trans (hb8.mono sb7.size)
                have bA8 := bA.below hb8 bA.lt
                rcases hq2 with ⟨x2, hfit2, _⟩ | ⟨y2, _, _, _, _, g2, _, rfl, _⟩
                · exact (HY1.out.no ((HSC.out x2).1 hfit2)).elim
                · obtain ⟨w9, hw9⟩ : ∃ w9, w8.alloc (.cells #[.slice none 0 0, .slice (some ⟨g2, 0, none⟩) S.m S.m] 27) = w9 := ⟨_, rfl⟩
                  obtain ⟨gB, hgB⟩ : ∃ gB, w8.heap.size = gB := ⟨_, rfl⟩
                  have bB : Blk w9 gB 27 #[.slice none 0 0, .slice (some ⟨g2, 0, none⟩) S.m S.m] := by rw [← hw9, ← hgB]; exact Blk.new _ _ _
                  have hb9 : Below w8.heap.size w8 w9 := by rw [← hw9]; exact (Below.refl _ _).alloc (Nat.le_refl _) _
                  have sb9 := sb8.trans (hb9.mono sb8.size)
                  have bA9 := bA8.below hb9 bA8.lt
                  have HW9 := hide hw9
                  have HGB := hide hgB
                  obtain ⟨a0, a1, -⟩ := bA9.c2
                  obtain ⟨b0, b1, -⟩ := bB.c2
                  clear hw9 hgB
                  go_upto_region 25 with (fail)
                  have em : (scS S q S.m).m = S.m := rfl
                  try rw [em]
                  rw [HW9.out, HGB.out]
                  clear HW9 HGB em
                  go_wp2_with fail
                  go_ret
                  exact ⟨rfl, sb9⟩
            · have hj : j < S.m := by omega
              have ej : (j : Int) < (S.m : Int) := by omega
              obtain rfl := HAA.out (by omega)
              obtain ⟨ra, rk, s0, rfit, rcs, smost⟩ := HRV.out j hj
              obtain ⟨mn, ma, ml, mk, mm, mb, mi, mj, s1, s2, s3, s4, hmq⟩ := smost
              have c0 := cellB s0 sbr (Nat.le_refl _)
              have c1 := cellB s1 sbr (Nat.le_refl _)
              have c2 := cellB s2 sbr (Nat.le_refl _)
              have c3 := cellB s3 sbr (Nat.le_refl _)
              have c4 := cellB s4 sbr (Nat.le_refl _)
              have zm : Qz (S.most j) := (HSM.out j hj).z (by decide)
              have HRW : Hid (Fit ra S.n rk ∧ (0 < S.n → ∃ rb ro, ra = some ⟨rb, ro, none⟩ ∧ ∀ c, c < S.n → FAt w rb (ro + c * 4) (S.A j c))) := hide ⟨rfit, rcs⟩
              have HMQ := hide hmq
              clear s0 s1 s2 s3 s4 rfit rcs hmq
              obtain ⟨W2, hW2⟩ : ∃ W2, wr.alloc (.cells #[.slice ra S.n rk, .bool mn, .slice ma ml mk, .bool mm, .slice mb mi mj] 43) = W2 := ⟨_, rfl⟩
              have bx : Blk W2 wr.heap.size 43 #[.slice ra S.n rk, .bool mn, .slice ma ml mk, .bool mm, .slice mb mi mj] := by rw [← hW2]; exact Blk.new _ _ _
              have sb2 : Below wr.heap.size wr W2 := by rw [← hW2]; exact (Below.refl _ _).alloc (Nat.le_refl _) _
              obtain ⟨gr, hgr⟩ : ∃ gr, wr.heap.size = gr := ⟨_, rfl⟩
              have t2 : Below w5.heap.size w5 W2 := hB.trans (sb2.mono hB.size)
              have HO2 := hide (HO.out.below sb2 (Nat.le_refl _))
              have HW2 := hide hW2
              have HGR := hide hgr
              rw [hgr] at bx
              clear hW2 hgr sb2 hB sbr HO
              go_upto_region 10 with (fail)
              rw [HW2.out, HGR.out]
              clear HW2 HGR c0 c1 c2 c3 c4
              go_wp2_with fail
              refine (of_any 1 W2 (by decide) (by decide)).mono ?_
              rintro e w3 ⟨r1, rfl, h1, hb3⟩
              obtain ⟨kn, ka, kl, kk, km, kb, ki, kj, rfl, -, -⟩ := FracV.parts h1
              have t3 : Below w5.heap.size w5 w3 := t2.trans (hb3.mono t2.size)
              have HO3 := hide (HO2.out.below hb3 (Nat.le_refl _))
              have bx3 := bx.below hb3 bx.lt
              obtain ⟨W4, hW4⟩ : ∃ W4, w3.alloc (.cells #[.bool kn, .slice ka kl kk, .bool km, .slice kb ki kj] 39) = W4 := ⟨_, rfl⟩
              obtain ⟨gq, hgq⟩ : ∃ gq, w3.heap.size = gq := ⟨_, rfl⟩
              have bk : Blk W4 gq 39 #[.bool kn, .slice ka kl kk, .bool km, .slice kb ki kj] := by rw [← hW4, ← hgq]; exact Blk.new _ _ _
              have hb4 : Below gq w3 W4 := by rw [← hW4]; exact (Below.refl _ _).alloc (by omega) _
              have hraw : ∃ R : RFr, RFrAt W4 gq 0 R := by
                obtain ⟨R, h, _⟩ := (FAt.of bk (h1.below hb4 (Nat.le_of_eq hgq))).raw (N := 1) Qn.one (by decide)
                exact ⟨R, h⟩
              have hgr3 : gr < gq := by rw [← hgq]; exact bx3.lt
              have HRA := hide hraw
              have HW4 := hide hW4
              have HGQ := hide hgq
              clear hraw hW4 hgq h1 hb3 t2 HO2 bx
              go_upto_if 54 with (fail)
              rw [HW4.out, HGQ.out]
              clear HW4
              go_cut [58] from 51 to 59 (fun _ wc => Below gq w3 wc ∧ gq < wc.heap.size ∧ ∃ R : RFr, RFrAt wc gq 0 R)
              case first =>
                have t4 : Below w.heap.size w W4 := sb5.trans ((t3.mono sb5.size).trans (hb4.mono (by have := t3.size; have := sb5.size; have := HGQ.out; omega)))
                rcases Nat.lt_or_ge j ts.length with hjt | hjt
                · have e1 : decide ((j : Int) < (ts.length : Int)) = true := decide_eq_true (by omega)
                  have e1' : decide (j < ts.length) = true := decide_eq_true hjt
                  have e2 : (j : Int) < (ts.length : Int) := by omega
                  obtain ⟨tb, to_, rfl, htr⟩ := HTS.out (by omega)
                  obtain ⟨y0, y1, y2, y3, yok⟩ := (htr j hjt).below t4 (Nat.le_refl _)
                  replace htr := hide htr
                  generalize ts[j] = R at *
                  obtain ⟨z0, z1, z2, z3, zf⟩ := bk.c4
                  have f0 := zf 0
                  have f1 := zf 1
                  have f2 := zf 2
                  have f3 := zf 3
                  clear zf
                  go_wp2_with fail
                  go_meet
                  exact ⟨set4b hb4 (Nat.le_refl _) _ _ _ _, by simp [World.setCell]; exact bk.lt, R, RFrAt.st4 yok bk⟩
                · have e1 : decide ((j : Int) < (ts.length : Int)) = false := decide_eq_false (by omega)
                  have e1' : decide (j < ts.length) = false := decide_eq_false (by omega)
                  have e2 : ¬(j : Int) < (ts.length : Int) := by omega
                  go_wp2_with fail
                  go_meet
                  exact ⟨hb4, bk.lt, HRA.out⟩
              case rest =>
                clear bk hb4 HRA
                obtain ⟨hBk, hltk, R, k0, k1, k2, k3, kok⟩ := hcut
                have t4 : Below w5.heap.size w5 wc := t3.trans (hBk.mono (by have := t3.size; have := HGQ.out; omega))
                have bx4 := bx3.below hBk hgr3
                have HO4 := hide (HO3.out.below hBk (Nat.le_of_eq HGQ.out))
                have u4 : Below w.heap.size w wc := sb5.trans (t4.mono sb5.size)
                clear bx3 HO3 hBk
                by_cases hu : R.up.ds.length = 1
                · have e1 : ((R.up.ds.length : Int) != 1) = false := by simp [hu]
                  have HU := hide hu
                  clear hu
                  rcases Nat.lt_or_ge 1 R.dn.ds.length with hd | hd
                  · have e2 : decide (1 < (R.dn.ds.length : Int)) = true := decide_eq_true (by omega)
                    go_wp2_with fail
                    go_ret
                    exact ⟨rfl, u4⟩
                  · have e2 : decide (1 < (R.dn.ds.length : Int)) = false := decide_eq_false (by omega)
                    have e3 : ¬1 < (R.dn.ds.length : Int) := by omega
                    have hsz : R.sz 1 := ⟨Nat.le_of_eq HU.out, hd⟩
                    have hsz9 : R.sz 1000000000 := ⟨Nat.le_trans hsz.1 (by decide), Nat.le_trans hsz.2 (by decide)⟩
                    cases hf : R.fr with
                    | false =>
                      have HF := hide hf
                      clear hf
                      go_wp2_with fail
                      refine (rr_at R kok hsz9 HF.out).mono ?_
                      rintro e w6 ⟨rfl, hb6⟩
                      have u6 := u4.trans (hb6.mono u4.size)
                      clear k0 k1 k2 k3
                      go_wp2_with fail
                      go_ret
                      exact ⟨rfl, u6⟩
                    | true =>
                      have HF := hide hf
                      clear hf
                      go_wp2_with fail
                      refine (rr_at R kok hsz9 HF.out).mono ?_
                      rintro e w6 ⟨rfl, hb6⟩
                      have u6 := u4.trans (hb6.mono u4.size)
                      have q0 := cellB k0 hb6 (Nat.le_refl _)
                      have q1 := cellB k1 hb6 (Nat.le_refl _)
                      have q2 := cellB k2 hb6 (Nat.le_refl _)
                      have q3 := cellB k3 hb6 (Nat.le_refl _)
                      clear k0 k1 k2 k3 e1 e2 e3
                      cases hn : R.up.neg with
                      | true =>
                        go_wp2_with fail
                        go_ret
                        exact ⟨rfl, u6⟩
                      | false =>
                        have hpos := RFr.pos HF.out HU.out hn
                        have hQ1 := RFr.size HF.out hsz (Nat.le_refl _)
                        have hkv : FracV w6 R.val R.q := (kok.below hb6 (Nat.le_refl _)).fracV HF.out
                        unfold RFr.val at hkv
                        rw [hn] at q0 hkv
                        obtain ⟨p, hp⟩ : ∃ p, R.q = p := ⟨_, rfl⟩
                        rw [hp] at hpos hQ1 hkv
                        have t6 := t4.trans (hb6.mono t4.size)
                        have bx6 := bx4.below hb6 bx4.lt
                        have HO6 := hide (HO4.out.below hb6 (Nat.le_refl _))
                        generalize R.up.at_ = ka at *
                        generalize R.up.ds.length = kl at *
                        generalize R.up.cap = kk at *
                        generalize R.dn.neg = km at *
                        generalize R.dn.at_ = kb at *
                        generalize R.dn.ds.length = ki at *
                        generalize R.dn.cap = kj at *
                        have HPOS := hide hpos
                        have HQ1 := hide hQ1
                        have zp : Qz p := hQ1.z (by decide)
                        have hmv : FracV w6 (.agg #[.bool mn, .slice ma ml mk, .bool mm, .slice mb mi mj]) (S.most j) := HMQ.out.below u6 (Nat.le_refl _)
                        have x1 : w6.cell? ⟨gr, 1, none⟩ = some (.bool mn) := bx6.cell 1
                        have x2 : w6.cell? ⟨gr, 2, none⟩ = some (.slice ma ml mk) := bx6.cell 2
                        have x3 : w6.cell? ⟨gr, 3, none⟩ = some (.bool mm) := bx6.cell 3
                        have x4 : w6.cell? ⟨gr, 4, none⟩ = some (.slice mb mi mj) := bx6.cell 4
                        have hgq6 : gq < w6.heap.size := World.block_lt_of_cell? w6 _ q0
                        have fk6 : FAt w6 gq 0 p := ⟨_, _, _, _, _, _, _, _, q0, q1, q2, q3, hkv⟩
                        have FK6 := hide fk6
                        clear hpos hQ1 hp hn HO4 bx4 t4 u4 hb6 kok hsz hsz9 fk6
                        go_wp2_with fail
                        refine (FMul_any w6 hkv hmv zp zm).mono ?_
                        rintro e w7 ⟨rP, rfl, hP, hb7⟩
                        obtain ⟨un, ua, ul, uk, um, ub, ui, uj, rfl, -, -⟩ := FracV.parts hP
                        have u7 := u6.trans (hb7.mono u6.size)
                        have t7 := t6.trans (hb7.mono t6.size)
                        have bx7 := bx6.below hb7 bx6.lt
                        have HO7 := hide (HO6.out.below hb7 (Nat.le_refl _))
                        have FK7 := hide (FK6.out.below hb7 (Nat.le_refl _))
                        obtain ⟨W8, hW8⟩ : ∃ W8, w7.alloc (.cells #[.slice none 0 0, .bool un, .slice ua ul uk, .bool um, .slice ub ui uj] 43) = W8 := ⟨_, rfl⟩
                        obtain ⟨gx, hgx⟩ : ∃ gx, w7.heap.size = gx := ⟨_, rfl⟩
                        have bX : Blk W8 gx 43 #[.slice none 0 0, .bool un, .slice ua ul uk, .bool um, .slice ub ui uj] := by rw [← hW8, ← hgx]; exact Blk.new _ _ _
                        have hb8 : Below gx w7 W8 := by rw [← hW8]; exact (Below.refl _ _).alloc (by omega) _
                        have hP8 := hP.below hb8 (Nat.le_of_eq hgx)
                        have hgqx : gq < gx := by have := hb7.size; omega
                        have hgrx : gr < gx := by have := bx7.lt; omega
                        have r8 : W8.cell? ⟨gr, 0, none⟩ = some (.slice ra S.n rk) := (bx7.below hb8 hgrx).cell 0
                        have HW8 := hide hW8
                        have HGX := hide hgx
                        clear hW8 hgx q0 q1 q2 q3 x1 x2 x3 x4 hkv hmv HO6 FK6 bx6 t6 u6 hb7 hP hgq6
                        go_upto_region 16 with (fail)
                        rw [HW8.out, HGX.out]
                        clear HW8
                        go_wp2_with fail
                        obtain ⟨gk1, hK1⟩ : ∃ K1, K1 = gk := ⟨_, rfl⟩
                        subst hK1
                        go_loopg [89] S.n (fun k v89 wi => ∃ (c : Nat) (vT : Value), c + k = S.n ∧ v89 = .int .i64 (c : Int) ∧ Below gx w7 wi ∧ Blk wi gx 43 #[vT, .bool un, .slice ua ul uk, .bool um, .slice ub ui uj] ∧ Hid (FracV wi (.agg #[.bool un, .slice ua ul uk, .bool um, .slice ub ui uj]) (p * S.most j)) ∧ RowC wi (gx + 1) vT c (fun i => p * S.A j i))
                        case atStart => exact ⟨0, .slice none 0 0, by omega, rfl, hb8, bX, hide hP8, RowC.nil _ _ _⟩
                        case round =>
                          clear hb8 bX hP8 r8
                          obtain ⟨c, vT, hck, rfl, hC, bX, HP8, hRC⟩ := hrel
                          have hgxs : gx < wr.heap.size := bX.lt
                          have u8 : Below w.heap.size w wr := u7.trans (hC.mono (by have := u7.size; have := HGX.out; omega))
                          rcases Nat.eq_zero_or_pos gk with h0 | h0
                          · subst h0
                            obtain rfl : c = S.n := by omega
                            clear hck
                            have x0 : wr.cell? ⟨gx, 0, none⟩ = some vT := bX.cell 0
                            have x1 : wr.cell? ⟨gx, 1, none⟩ = some (.bool un) := bX.cell 1
                            have x2 : wr.cell? ⟨gx, 2, none⟩ = some (.slice ua ul uk) := bX.cell 2
                            have x3 : wr.cell? ⟨gx, 3, none⟩ = some (.bool um) := bX.cell 3
                            have x4 : wr.cell? ⟨gx, 4, none⟩ = some (.slice ub ui uj) := bX.cell 4
                            have hO8 := HO7.out.below hC (Nat.le_of_eq HGX.out)
                            obtain ⟨news, hnl, hnw, hns, hn1, hnu⟩ := hO8.cells
                            obtain ⟨ta, tk, hvT, hfit, hrow⟩ := hRC.form
                            subst hvT
                            obtain ⟨i0, hi0, hz0, hz1, hz2⟩ := info_parts infoRw
                            have hbA : Below wr.heap.size wr (wr.alloc (.cells #[.slice ta S.n tk, .bool un, .slice ua ul uk, .bool um, .slice ub ui uj] 43)) := (Below.refl _ _).alloc (Nat.le_refl _) _
                            have hown : (wr.alloc (.cells #[.slice ta S.n tk, .bool un, .slice ua ul uk, .bool um, .slice ub ui uj] 43)).ownsRow wr.heap.size 43 5 (.slice (some ⟨wr.heap.size, 0, none⟩) 1 1) 1 [.slice ta S.n tk, .bool un, .slice ua ul uk, .bool um, .slice ub ui uj] :=
                              ⟨rfl, .inr ⟨_, 1, _, rfl, Nat.le_refl _, heap_alloc_new wr _, Nat.le_refl _, by unfold maxLen; omega, rfl, rfl⟩⟩
                            have hcal : ∀ g, (Value.slice (some ⟨wr.heap.size, 0, none⟩) 1 1).ownBlock = some g → Calm (wr.alloc (.cells #[.slice ta S.n tk, .bool un, .slice ua ul uk, .bool um, .slice ub ui uj] 43)) g := fun g e => by
                              obtain rfl := Option.some.inj e
                              refine Calm.of (Blk.new wr _ _) (fun u hu => ?_)
                              simp only [List.mem_toArray, List.mem_cons, List.not_mem_nil, or_false] at hu
                              rcases hu with rfl | rfl | rfl | rfl | rfl
                              · exact NoU.slice _ _ _
                              · exact NoU.bool _
                              · exact NoU.slice _ _ _
                              · exact NoU.bool _
                              · exact NoU.slice _ _ _
                            have hns' : ∀ d u, news[d]? = some u → (wr.alloc (.cells #[.slice ta S.n tk, .bool un, .slice ua ul uk, .bool um, .slice ub ui uj] 43)).cell? ((⟨go, 0, none⟩ : Addr).add d) = some u := fun d u hu => cellB (hns d u hu) hbA (Nat.le_refl _)
                            have hnl' : news.length = j * 5 := hnl
                            have hnw' : ∀ i, i < j * 5 → news[i]? = wr.cell? ⟨go, 0 + i, none⟩ := hnw
                            have hbs : wr.heap.size ≤ (wr.alloc (.cells #[.slice ta S.n tk, .bool un, .slice ua ul uk, .bool um, .slice ub ui uj] 43)).heap.size := hbA.size
                            have hzu : ∀ u ∈ (Value.agg #[.slice none 0 0, .bool false, .slice none 0 0, .bool false, .slice none 0 0]).cells, NoU u := fun u hu => by
                              simp only [Value.cells, List.mem_toArray, List.mem_cons, List.not_mem_nil, or_false] at hu
                              rcases hu with rfl | rfl | rfl | rfl | rfl
                              · exact NoU.slice _ _ _
                              · exact NoU.bool _
                              · exact NoU.slice _ _ _
                              · exact NoU.bool _
                              · exact NoU.slice _ _ _
                            have HOWN := hide hown
                            have HNS := hide hns'
                            have HCAL := hide hcal
                            have HNL := hide hnl'
                            have HNW := hide hnw'
                            have HN1 := hide hn1
                            have HNU := hide hnu
                            have HZU := hide hzu
                            have HO8 := hide hO8
                            have HROW := hide hrow
                            have HBA := hide hbA
                            have HFIT := hide hfit
                            clear hown hns' hcal hnl' hnw' hn1 hnu hnl hnw hns hO8 hrow hRC hbA hfit hzu
                            go_wp2_with (at_builtin; refine wpList_append_calm _ rfl (.tmp 103) (.tmp 104) 22 rfl wr.heap.size 43 i0 (.agg #[.slice none 0 0, .bool false, .slice none 0 0, .bool false, .slice none 0 0]) 5 88 Tryz.underlying22 hi0 hz0 hz1 hz2 rfl (by decide) (.slice (some ⟨wr.heap.size, 0, none⟩) 1 1) 1 [.slice ta S.n tk, .bool un, .slice ua ul uk, .bool um, .slice ub ui uj] rfl HOWN.out ⟨go, 0, none⟩ j co news rfl HNL.out HNS.out HN1.out ?c1 ?c2 hbs HCAL.out HNU.out HZU.out ?_)
                            case c1 => unfold maxLen; omega
                            case c2 => omega
                            intro v' w9 hown' hgrow hat hcalm
                            have hC9 : Below gx w7 w9 := (hC.trans (HBA.out.mono (Nat.le_of_lt hgxs))).grown hgrow (by have := hbs; omega) (fun k hk => by have : wr.heap.size = k := Option.some.inj hk; omega)
                            obtain ⟨g', c', rfl, hRV9⟩ := rows_cons (p := p) rfl ⟨ta, tk, rfl, HFIT.out, fun hn => by
                              obtain ⟨g, e, _, h⟩ := HROW.out hn
                              exact ⟨g, e, h⟩⟩ HP8.out HO8.out HNL.out HNW.out hown' hgrow
                            have t9 : Below w5.heap.size w5 w9 := t7.trans (hC9.mono (by have := t7.size; have := HGX.out; omega))
                            have HRV9 := hide hRV9
                            clear hown' hgrow hat hcalm x0 x1 x2 x3 x4 hRV9
                            go_wp2_with fail
                            go_roundg (gk1 - 1)
                            case measure => omega
                            case rel =>
                              exact ⟨j + 1, g', c', put q j p, by omega, by go_num, by rw [Nat.add_comm], t9, hide (fun i hi => by
                                by_cases he : i = j
                                · subst he; rw [put_at]; exact ⟨HPOS.out, HQ1.out⟩
                                · rw [put_else _ _ he]; exact HQ.out i (by omega)), HRV9⟩
                          · have hc : c < S.n := by omega
                            have ec : (c : Int) < (S.n : Int) := by omega
                            obtain ⟨rb, ro, rfl, hrow⟩ := HRW.out.2 (by omega)
                            obtain ⟨xn, xa, xl, xk, xm, xb, xi, xj, x0, x1, x2, x3, hx⟩ := (hrow c hc).below u8 (Nat.le_refl _)
                            have zx : Qz (S.A j c) := (HSA.out j c hj hc).z (by decide)
                            replace hrow := hide hrow
                            obtain ⟨W9, hW9⟩ : ∃ W9, wr.alloc (.cells #[.bool xn, .slice xa xl xk, .bool xm, .slice xb xi xj] 39) = W9 := ⟨_, rfl⟩
                            obtain ⟨gn, hgn⟩ : ∃ gn, wr.heap.size = gn := ⟨_, rfl⟩
                            have bn : Blk W9 gn 39 #[.bool xn, .slice xa xl xk, .bool xm, .slice xb xi xj] := by rw [← hW9, ← hgn]; exact Blk.new _ _ _
                            have hb9 : Below wr.heap.size wr W9 := by rw [← hW9]; exact (Below.refl _ _).alloc (Nat.le_refl _) _
                            have hx9' : FracV W9 (.agg #[.bool xn, .slice xa xl xk, .bool xm, .slice xb xi xj]) (S.A j c) := hx.below hb9 (Nat.le_refl _)
                            have hx9 : FracV W9.drew (.agg #[.bool xn, .slice xa xl xk, .bool xm, .slice xb xi xj]) (S.A j c) := hx9'
                            have bX9 := bX.below hb9 bX.lt
                            have hRC9 := hRC.below hb9
                            have hC9 : Below gx w7 W9 := hC.trans (hb9.mono (Nat.le_of_lt hgxs))
                            obtain ⟨kn, ka, kl, kk, km, kb, ki, kj, k0, k1, k2, k3, hk⟩ := FK7.out.below hC9 (Nat.le_of_eq HGX.out)
                            have hk9 : FracV W9.drew (.agg #[.bool kn, .slice ka kl kk, .bool km, .slice kb ki kj]) p := hk
                            have HP9 := hide (HP8.out.below hb9 (Nat.le_refl _))
                            have hgxn : gx < gn := by omega
                            have hlow : ∀ g, vT.ownBlock = some g → gx + 1 ≤ g ∧ g < gn := fun g e => by have := hRC.lt g e; omega
                            have hsz9 : W9.heap.size = gn + 1 := by rw [← hW9, ← hgn]; simp
                            have HW9 := hide hW9
                            have HGN := hide hgn
                            have HLW := hide hlow
                            clear hW9 hgn hb9 hx hk hC bX hRC HP8 hlow hgxs
                            go_upto_region 19 with (fail)
                            rw [HW9.out, HGN.out]
                            clear HW9 HGN x0 x1 x2 x3
                            obtain ⟨x0, x1, x2, x3, -⟩ := bn.c4
                            have t0 : W9.cell? ⟨gx, 0, none⟩ = some vT := bX9.cell 0
                            refine wp_region_till (S := fun w' => w'.cell? ⟨gx, 0, none⟩ = some vT ∧ w'.cell? ⟨gq, 0, none⟩ = some (.bool kn) ∧ w'.cell? ⟨gq, 1, none⟩ = some (.slice ka kl kk) ∧ w'.cell? ⟨gq, 2, none⟩ = some (.bool km) ∧ w'.cell? ⟨gq, 3, none⟩ = some (.slice kb ki kj) ∧ w'.cell? ⟨gn, 0, none⟩ = some (.bool xn) ∧ w'.cell? ⟨gn, 1, none⟩ = some (.slice xa xl xk) ∧ w'.cell? ⟨gn, 2, none⟩ = some (.bool xm) ∧ w'.cell? ⟨gn, 3, none⟩ = some (.slice xb xi xj)) (fun i => decide (i < 7)) (by kernel_rfl) (⟨t0, k0, k1, k2, k3, x0, x1, x2, x3⟩) (fun hS => ?_)
                            refine Till_take (i := 0) (oi := ⟨some 93, Op.fieldAddr 43 (Operand.tmp 12) 0, 0, "law.go:134", #[], none⟩) (v := ?_) rfl (by kernel_rfl) (by kernel_rfl) (by kernel_rfl) (fun _ _ _ h => h) rfl (by kernel_rfl) (Or.inl ⟨by rfl, ?_⟩) hS ?_
                            rotate_left
                            · (intro w' hSw; (try dsimp only at hSw); go_simp; try with_reducible rfl)
                            try simp only [Act.put, sB, sC, sD]
                            refine Till_take (i := 1) (oi := ⟨some 94, Op.load 25 (Operand.tmp 93), 25, "law.go:134", #[eD 0], none⟩) (v := ?_) rfl (by kernel_rfl) (by kernel_rfl) (by kernel_rfl) (fun _ _ _ h => h) rfl (by kernel_rfl) (Or.inl ⟨by rfl, ?_⟩) hS ?_
                            rotate_left
                            · (intro w' hSw; (try dsimp only at hSw); go_simp; try with_reducible rfl)
                            try simp only [Act.put, sB, sC, sD]
                            refine Till_take (i := 2) (oi := ⟨some 95, Op.load 39 (Operand.tmp 11), 39, "law.go:134", #[], none⟩) (v := ?_) rfl (by kernel_rfl) (by kernel_rfl) (by kernel_rfl) (fun _ _ _ h => h) rfl (by kernel_rfl) (Or.inl ⟨by rfl, ?_⟩) hS ?_
                            rotate_left
                            · (intro w' hSw; (try dsimp only at hSw); go_simp; try with_reducible rfl)
                            try simp only [Act.put, sB, sC, sD]
                            refine Till_take (i := 3) (oi := ⟨some 96, Op.load 39 (Operand.tmp 14), 39, "law.go:134", #[], none⟩) (v := ?_) rfl (by kernel_rfl) (by kernel_rfl) (by kernel_rfl) (fun _ _ _ h => h) rfl (by kernel_rfl) (Or.inl ⟨by rfl, ?_⟩) hS ?_
                            rotate_left
                            · (intro w' hSw; (try dsimp only at hSw); go_simp; try with_reducible rfl)
                            try simp only [Act.put, sB, sC, sD]
                            refine Till_ready (rs := [4]) (by kernel_rfl) (by kernel_rfl) (by simp) ?_
                            refine AllReadyT.cons (o := ⟨some 97, Op.call { callee := Callee.value (Operand.func 15), args := #[Operand.tmp 95, Operand.tmp 96], argTypes := #[39, 39] }, 39, "law.go:134", #[eD 2, eD 3], none⟩) rfl (fun K hK => ?_) AllReadyT.nil
                            go_simp
                            (go_at_call 15; (with_reducible refine (FMul_any _ hk9 hx9 zp zx).mono ?_); rintro e wC ⟨rC, rfl, hC4, hb1⟩)
                            obtain ⟨vn, va, vl, vk, vm, vb, vi, vj, rfl, -, -⟩ := FracV.parts hC4
                            go_wp2_with fail
                            refine hK.out _ _ ⟨cellK hb1 hS.1, cellK hb1 hS.2.1, cellK hb1 hS.2.2.1, cellK hb1 hS.2.2.2.1, cellK hb1 hS.2.2.2.2.1, cellK hb1 hS.2.2.2.2.2.1, cellK hb1 hS.2.2.2.2.2.2.1, cellK hb1 hS.2.2.2.2.2.2.2.1, cellK hb1 hS.2.2.2.2.2.2.2.2⟩ (fun hS => ?_)
                            clear hK K
                            have hbC : Below W9.heap.size W9 wC := ((Below.refl W9.heap.size W9).drew).trans hb1
                            clear hb1
                            try simp only [Act.put, sB, sC, sD]
                            try simp only [Act.put, sB, sC, sD]
                            refine Till_ready (rs := [5]) (by kernel_rfl) (by kernel_rfl) (by simp) ?_
                            refine AllReadyT.cons (o := ⟨some 98, Op.buildSlice 25 1 #[(0, Operand.tmp 97)], 25, "law.go:134", #[eD 4], none⟩) rfl (fun K hK => ?_) AllReadyT.nil
                            have hbA : Below wC.heap.size wC (wC.alloc (.cells #[.bool vn, .slice va vl vk, .bool vm, .slice vb vi vj] 39)) := (Below.refl _ _).alloc (Nat.le_refl _) _
                            have hbT : Below W9.heap.size W9 (wC.alloc (.cells #[.bool vn, .slice va vl vk, .bool vm, .slice vb vi vj] 39)) := hbC.trans (hbA.mono hbC.size)
                            have hRB := hRC9.below hbT
                            obtain ⟨xs, y1, y2, y3⟩ := hRB
                            have bXB := bX9.below hbT bX9.lt
                            have hPB := hide (HP9.out.below hbT (Nat.le_refl _))
                            have hvB := hide (hC4.below hbA (Nat.le_refl _))
                            have hCB : Below gx w7 (wC.alloc (.cells #[.bool vn, .slice va vl vk, .bool vm, .slice vb vi vj] 39)) := hC9.trans (hbT.mono (by omega))
                            have hHH : (wC.alloc (.cells #[.bool vn, .slice va vl vk, .bool vm, .slice vb vi vj] 39)).heap.size = wC.heap.size + 1 := by simp
                            have hlt0 : gn < (wC.alloc (.cells #[.bool vn, .slice va vl vk, .bool vm, .slice vb vi vj] 39)).heap.size := by have := hbT.size; omega
                            obtain ⟨i0, hi0, hz0, hz1, hz2⟩ := info_parts infoF
                            have nx : some gx ≠ vT.ownBlock := fun e => by have := HLW.out gx e.symm; omega
                            have nq : some gq ≠ vT.ownBlock := fun e => by have := HLW.out gq e.symm; omega
                            have nn : some gn ≠ vT.ownBlock := fun e => by have := HLW.out gn e.symm; omega
                            have lx : gx < (wC.alloc (.cells #[.bool vn, .slice va vl vk, .bool vm, .slice vb vi vj] 39)).heap.size := by omega
                            have lq : gq < (wC.alloc (.cells #[.bool vn, .slice va vl vk, .bool vm, .slice vb vi vj] 39)).heap.size := by omega
                            have HY1 := hide y1
                            have HY2 := hide y2
                            have HY3 := hide y3
                            have HHH := hide hHH
                            have HZU : Hid (∀ u ∈ zeroF.cells, NoU u) := hide zeroF_calm
                            have HNU : Hid (∀ u ∈ [Value.bool vn, .slice va vl vk, .bool vm, .slice vb vi vj], NoU u) := hide (four_calm _ _ _ _ _ _ _ _)
                            clear y1 y2 y3 hHH
                            go_simp
                            refine hK.out _ _ ⟨cellK hbA hS.1, cellK hbA hS.2.1, cellK hbA hS.2.2.1, cellK hbA hS.2.2.2.1, cellK hbA hS.2.2.2.2.1, cellK hbA hS.2.2.2.2.2.1, cellK hbA hS.2.2.2.2.2.2.1, cellK hbA hS.2.2.2.2.2.2.2.1, cellK hbA hS.2.2.2.2.2.2.2.2⟩ (fun hS => ?_)
                            clear hK K
                            try simp only [Act.put, sB, sC, sD]
                            try simp only [Act.put, sB, sC, sD]
                            refine Till_ready (rs := [6]) (by kernel_rfl) (by kernel_rfl) (by simp) ?_
                            refine AllReadyT.cons (o := ⟨some 99, Op.call { callee := Callee.builtin Builtin.append, args := #[Operand.tmp 94, Operand.tmp 98], argTypes := #[25, 25] }, 25, "law.go:134", #[eD 1, eD 5, eC 4], none⟩) rfl (fun K hK => ?_) AllReadyT.nil
                            refine step_append_calm _ rfl (.tmp 94) (.tmp 98) 25 rfl (gx + 1) 39 i0 zeroF 4 64 Tryz.underlying25 hi0 hz0 hz1 hz2 rfl (by decide) vT c xs (by rfl) HY1.out ⟨wC.heap.size, 0, none⟩ 1 1 [.bool vn, .slice va vl vk, .bool vm, .slice vb vi vj] (by rfl) rfl (news_four _ _ _ _ _ _) (by simp [Value.oneCell']) (by unfold maxLen; omega) (by omega) (by omega) HY2.out HNU.out HZU.out ?_
                            intro vN w1 hown hgrow hat hcalm
                            obtain ⟨ya, yk, rfl⟩ := own_slice hown
                            refine hK.out _ _ ⟨(hgrow.cell_far _ lx nx).trans hS.1, (hgrow.cell_far _ lq nq).trans hS.2.1, (hgrow.cell_far _ lq nq).trans hS.2.2.1, (hgrow.cell_far _ lq nq).trans hS.2.2.2.1, (hgrow.cell_far _ lq nq).trans hS.2.2.2.2.1, (hgrow.cell_far _ hlt0 nn).trans hS.2.2.2.2.2.1, (hgrow.cell_far _ hlt0 nn).trans hS.2.2.2.2.2.2.1, (hgrow.cell_far _ hlt0 nn).trans hS.2.2.2.2.2.2.2.1, (hgrow.cell_far _ hlt0 nn).trans hS.2.2.2.2.2.2.2.2⟩ (fun hS => ?_)
                            clear hK K
                            try simp only [Act.put, sB, sC, sD]
                            try simp only [Act.put, sB, sC, sD]
                            refine Till_turn (by kernel_rfl) ?_
                            refine wpAnyH_take (i := 7) (oi := ⟨some 100, Op.fieldAddr 43 (Operand.tmp 12) 0, 0, "law.go:134", #[eP 0, eP 1, eP 2, eP 3, eP 4, eP 5, eP 6], none⟩) (v := ?_) rfl (by kernel_rfl) (by kernel_rfl) (by kernel_rfl) (fun _ _ _ h => h) (Or.inl ⟨by rfl, ?_⟩) trivial ?_
                            rotate_left
                            · (intro w' hSw; (try dsimp only at hSw); go_simp; try with_reducible rfl)
                            try simp only [Act.put, sB, sC, sD]
                            refine wpAnyH_ready (rs := [8]) (by kernel_rfl) (by simp) ?_
                            refine AllReadyH.cons (o := ⟨none, Op.store 25 (Operand.tmp 100) (Operand.tmp 99), 0, "law.go:134", #[eD 7, eD 6, eC 6, eP 0, eP 1, eP 2, eP 3, eP 4, eP 5, eP 6], none⟩) rfl (fun K hK => ?_) AllReadyH.nil
                            have bX1 := bXB.grown hgrow nx
                            have hR1 := RowC.grow HY1.out HY2.out HY3.out hown hgrow hcalm hvB.out
                            have hP1 := hPB.out.grown hgrow HY2.out
                            have hC1 : Below gx w7 w1 := hCB.grown hgrow (by omega) (fun k hk => by have := HLW.out k hk; omega)
                            have hnd : NoDig w1 ⟨gx, 0, none⟩ := noDig_row bX1 hRC9.form
                            obtain ⟨W3, hW3⟩ : ∃ W3, w1.setCell ⟨gx, 0, none⟩ (.slice ya (c + 1) yk) = W3 := ⟨_, rfl⟩
                            have bXN : Blk W3 gx 43 #[(.slice ya (c + 1) yk), .bool un, .slice ua ul uk, .bool um, .slice ub ui uj] := by rw [← hW3]; exact bX1.set_ 0 (.slice ya (c + 1) yk)
                            have hPN : FracV W3 (.agg #[.bool un, .slice ua ul uk, .bool um, .slice ub ui uj]) (p * S.most j) := by rw [← hW3]; exact hP1.setX hnd _
                            have hRN : RowC W3 (gx + 1) (.slice ya (c + 1) yk) (c + 1) (fun i => p * S.A j i) := by rw [← hW3]; exact hR1.setX (Nat.lt_succ_self gx) hnd _
                            have hCN : Below gx w7 W3 := by rw [← hW3]; exact hC1.setCell (Nat.le_refl _) _
                            have z1 : w1.cell? ⟨gx, 0, none⟩ = some vT := bX1.cell 0
                            have f1 : w1.frozen? ⟨gx, 0, none⟩ = false := bX1.frozen 0
                            have HW3 := hide hW3
                            clear hW3 hown hgrow hat hcalm hnd bX1 hR1 hP1 hC1 HY1 HY2 HY3 hi0 hz0 hz1 hz2
                            go_simp
                            refine hK.out _ _ trivial (fun _ => ?_)
                            clear hK K z1 f1
                            try simp only [Act.put, sB, sC, sD]
                            refine wpAnyH_done (by kernel_rfl) ?_ _
                            rw [HW3.out]
                            clear HW3 hS t0 k0 k1 k2 k3 x0 x1 x2 x3
                            go_wp2_with fail
                            go_roundg (gk - 1)
                            case measure => omega
                            case rel => exact ⟨c + 1, .slice ya (c + 1) yk, by omega, by go_num, hCN, bXN, hide hPN, hRN⟩
                · have e1 : ((R.up.ds.length : Int) != 1) = true := by simp; omega
                  have e2 : ¬(R.up.ds.length : Int) = 1 := by omega
                  go_wp2_with fail
                  go_ret
                  exact ⟨rfl, u4⟩
end Go.Proofs.YtphjffbldhhdiaaGreatDoor
