/- collatorlaw02.speaks and Odd: by their contracts. -/
import Derived.Test.YthpibilefdmemaaDoorRf5
namespace Go.Proofs.YthpibilefdmemaaDoor
open Go.RowKit

theorem ex_num : (Rat.divInt 6 (-4)).num = -3 := by rw [make_num (by decide)]; rfl
theorem ex_den : (Rat.divInt 6 (-4)).den = 2 := by
  have h := make_den (x := 6) (y := -4) (by decide)
  have e : (((-4 : Int).natAbs : Nat) : Int) / ((Nat.gcd (6 : Int).natAbs (-4 : Int).natAbs : Nat) : Int) = 2 := by decide
  rw [e] at h
  omega
theorem ex_txt : decQ (Rat.divInt 6 (-4)) = [45, 51, 47, 50] := by
  unfold decQ
  rw [ex_num, ex_den]
  simp [decZ, Lib.decDigits_one (show 3 < 10 by decide), Lib.decDigits_one (show 2 < 10 by decide)]
theorem ex_floor : (Rat.divInt 6 (-4)).floor = -2 := by
  rw [Rat.floor_def, ex_num, ex_den]; rfl
theorem ex_size : Qn 20 (Rat.divInt 6 (-4)) := by
  refine ⟨?_, ?_⟩
  · rw [ex_num]; exact Nat.le_trans (dg_len BB2 (show (-3 : Int).natAbs < BB ^ 1 by decide)) (by decide)
  · rw [ex_den]; exact Nat.le_trans (dg_len BB2 (show ((2 : Nat) : Int).natAbs < BB ^ 1 by decide)) (by decide)

set_option maxRecDepth 100000 in
set_option maxHeartbeats 1600000 in
theorem fspeaks_any (w : World) (ht : Tab w) : Calls Tryd.prog 37 #[] w fun e w' => e = .returned (.bool true) ∧ Below w.heap.size w w' := by
  go_enter Tryd.func37, Tryd.ntmps37
  go_wp2_with fail
  refine (Of_any 6 w (by decide) (by decide)).mono ?_
  rintro e w1 ⟨p, rfl, hp, hb1⟩
  go_wp2_with fail
  refine (Of_any (-4) w1 (by decide) (by decide)).mono ?_
  rintro e w2 ⟨q, rfl, hq, hb2⟩
  have sb : Below w.heap.size w w2 := hb1.trans (hb2.mono hb1.size)
  go_wp2_with fail
  refine (FMake_any w2 (hp.below hb2 (Nat.le_refl _)) hq (sm_small (by decide)) (sm_small (by decide))).mono ?_
  rintro e w3 ⟨f, rfl, hf, hb3⟩
  replace sb := sb.trans (hb3.mono sb.size)
  have hsz := ex_size
  obtain ⟨fn, fa, fl, fk, fm, fb, fi, fj, rfl, hf1, hf2⟩ := FracV.parts hf
  clear hp hq hb1 hb2 hb3
  obtain ⟨w4, hw4⟩ : ∃ w4, w3.alloc (.cells #[.bool fn, .slice fa fl fk, .bool fm, .slice fb fi fj] 58) = w4 := ⟨_, rfl⟩
  have bf : Blk w4 w3.heap.size 58 #[.bool fn, .slice fa fl fk, .bool fm, .slice fb fi fj] := by rw [← hw4]; exact Blk.new _ _ _
  have hb4 : Below w3.heap.size w3 w4 := by rw [← hw4]; exact (Below.refl _ _).alloc (Nat.le_refl _) _
  replace sb := sb.trans (hb4.mono sb.size)
  replace hf := hf.below hb4 (Nat.le_refl _)
  have HW := hide hw4
  clear hw4 hb4 hf1 hf2
  go_upto_region 2 with (fail)
  rw [HW.out]
  clear HW
  generalize w3.heap.size = G at bf ⊢
  obtain ⟨f0, f1, f2, f3, -⟩ := bf.c4
  go_wp2_with fail
  refine (FFloor_any w4 hf (hsz.z (by decide))).mono ?_
  rintro e w5 ⟨r, rfl, hr, hb5⟩
  rw [ex_floor] at hr
  have hD : decide ((Rat.divInt 6 (-4)).den = 1) = false := by rw [ex_den]; rfl
  rw [hD]
  clear hD
  obtain ⟨rn, ra, rl, rk, rfl⟩ := hr.parts
  clear f0 f1 f2 f3
  replace bf := bf.below hb5 bf.lt
  replace sb := sb.trans (hb5.mono sb.size)
  replace hf := hf.below hb5 (Nat.le_refl _)
  obtain ⟨w6, hw6⟩ : ∃ w6, w5.alloc (.cells #[.bool rn, .slice ra rl rk] 24) = w6 := ⟨_, rfl⟩
  have br : Blk w6 w5.heap.size 24 #[.bool rn, .slice ra rl rk] := by rw [← hw6]; exact Blk.new _ _ _
  have hb6 : Below w5.heap.size w5 w6 := by rw [← hw6]; exact (Below.refl _ _).alloc (Nat.le_refl _) _
  replace bf := bf.below hb6 bf.lt
  replace sb := sb.trans (hb6.mono sb.size)
  replace hf := hf.below hb6 (Nat.le_refl _)
  replace hr := hr.below hb6 (Nat.le_refl _)
  have HW := hide hw6
  clear hw6 hb5 hb6
  go_upto_region 3 with (fail)
  rw [HW.out]
  clear HW
  generalize w5.heap.size = G2 at br ⊢
  obtain ⟨f0, f1, f2, f3, -⟩ := bf.c4
  go_wp2_with fail
  refine (FText_any w6 hf hsz (ht.atBelow sb (Nat.le_refl _))).mono ?_
  rintro e w7 ⟨rfl, hb7⟩
  rw [ex_txt]
  clear f0 f1 f2 f3
  replace br := br.below hb7 br.lt
  replace sb := sb.trans (hb7.mono sb.size)
  replace hr := hr.below hb7 (Nat.le_refl _)
  obtain ⟨r0, r1, -⟩ := br.c2
  clear hb7
  go_wp2_with fail
  refine (Text_any w7 hr (sm_small (by decide)) (ht.atBelow sb (Nat.le_refl _))).mono ?_
  rintro e w8 ⟨rfl, hb8⟩
  rw [show decZ (-2) = [45, 50] by simp [decZ, Lib.decDigits_one (show 2 < 10 by decide)]]
  replace sb := sb.trans (hb8.mono sb.size)
  go_wp2_with fail
  go_ret
  exact ⟨rfl, sb⟩

/-- A fraction as it came in. -/
structure RFr where
  up : Raw
  dn : Raw
def RFr.val (r : RFr) : Value := .agg #[.bool r.up.neg, .slice r.up.at_ r.up.ds.length r.up.cap, .bool r.dn.neg, .slice r.dn.at_ r.dn.ds.length r.dn.cap]
structure RFrOk (w : World) (r : RFr) : Prop where
  up : RawOk w r.up
  dn : RawOk w r.dn
theorem RFrOk.below {w w' : World} {B : Nat} {r : RFr} (h : RFrOk w r) (hb : Below B w w') (hB : w.heap.size ≤ B) : RFrOk w' r := ⟨h.1.below hb hB, h.2.below hb hB⟩
/-- Small, and right. -/
def RFr.good (r : RFr) : Prop := r.up.ds.length ≤ 5 ∧ r.dn.ds.length ≤ 5 ∧ frightB r.up r.dn = true
theorem RFrOk.frac {w : World} {r : RFr} (h : RFrOk w r) (hg : r.good) : ∃ q : Rat, FracV w r.val q ∧ Qn 5 q := by
  obtain ⟨⟨n, a, c, ds⟩, ⟨m, b, d, es⟩⟩ := r
  obtain ⟨h5, h6, hf⟩ := hg
  have hr1 : rightB n ds = true := by
    unfold frightB at hf
    rw [Bool.and_eq_true] at hf; exact hf.1
  have hr2 : rightB m es = true := by
    unfold frightB at hf
    rw [Bool.and_eq_true, Bool.and_eq_true] at hf; exact hf.2.1
  obtain ⟨z, hz1, hz2⟩ := rightB_val hr1
  obtain ⟨y, hy1, hy2⟩ := rightB_val hr2
  obtain ⟨q, rfl, rfl⟩ := (frightB_iff z y (r := ⟨n, a, c, ds⟩) (s := ⟨m, b, d, es⟩) hz1 hz2 hy1 hy2).1 hf
  subst hz1 hz2 hy1 hy2
  refine ⟨q, ⟨_, _, _, _, _, _, _, _, rfl, ⟨a, c, rfl, h.up.fit, h.up.dig⟩, ⟨b, d, rfl, h.dn.fit, h.dn.dig⟩⟩, ⟨h5, ?_⟩⟩
  have h7 : len (und q) ≤ 5 := h6
  unfold und at h7
  by_cases h1 : q.den = 1
  · rw [h1]; exact Nat.le_trans (dg_len BB2 (show ((1 : Nat) : Int).natAbs < BB ^ 1 by decide)) (by decide)
  · rwa [if_neg h1] at h7
/-- A row of fractions. -/
def RFrRow (w : World) (g : Nat) (l : List RFr) : Prop := ∀ (i : Nat) (h : i < l.length), w.cell? ⟨g, i * 4, none⟩ = some (.bool l[i].up.neg) ∧ w.cell? ⟨g, i * 4 + 1, none⟩ = some (.slice l[i].up.at_ l[i].up.ds.length l[i].up.cap) ∧ w.cell? ⟨g, i * 4 + 2, none⟩ = some (.bool l[i].dn.neg) ∧ w.cell? ⟨g, i * 4 + 3, none⟩ = some (.slice l[i].dn.at_ l[i].dn.ds.length l[i].dn.cap) ∧ RFrOk w l[i]

set_option maxRecDepth 100000 in
set_option maxHeartbeats 3200000 in
theorem FOdd_any (g : Nat) (l : List RFr) (w : World) (h : RFrRow w g l) (hl : l.length ≤ 1000) :
    Calls Tryd.prog 45 #[.slice (some ⟨g, 0, none⟩) l.length l.length] w fun e w' => ∃ o, e = .returned (.bool o) ∧ Below w.heap.size w w' ∧ (o = false → ∀ r ∈ l, r.good) := by
  generalize hP : (fun (e : Ending) (w' : World) => ∃ o, e = .returned (.bool o) ∧ Below w.heap.size w w' ∧ (o = false → ∀ r ∈ l, r.good)) = Post
  have HP := hide hP
  clear hP
  go_enter Tryd.func45, Tryd.ntmps45
  go_wp2_with fail
  go_loopg [7] l.length (fun k v wr => ∃ j : Nat, j + k = l.length ∧ v = .int .i64 (j : Int) ∧ Hid (∀ r ∈ l.take j, r.good) ∧ Below w.heap.size w wr)
  case atStart => exact ⟨0, by omega, rfl, hide (by simp), Below.refl _ _⟩
  case round =>
    obtain ⟨j, hjk, rfl, HT, hB⟩ := hrel
    rcases Nat.eq_zero_or_pos gk with h0 | h0
    · subst h0
      obtain rfl : j = l.length := by omega
      have HV : Hid (∀ r ∈ l, r.good) := hide (by have h := HT.out; rwa [List.take_length] at h)
      go_wp2_with fail
      rw [← HP.out]
      exact ⟨_, rfl, hB, fun _ => HV.out⟩
    · have hj : j < l.length := by omega
      obtain ⟨k0, k1, k2, k3, hok⟩ := h j hj
      have HN : Hid (l[j].good → ∀ r ∈ l.take (j + 1), r.good) := hide (fun hg r hr => by
        rw [List.take_succ_eq_append_getElem hj, List.mem_append] at hr
        rcases hr with hr | hr
        · exact HT.out r hr
        · rw [List.mem_singleton] at hr; rw [hr]; exact hg)
      generalize l[j] = R at *
      have b0 := (hB.cell (World.block_lt_of_cell? w _ k0)).trans k0
      have b1 := (hB.cell (World.block_lt_of_cell? w _ k1)).trans k1
      have b2 := (hB.cell (World.block_lt_of_cell? w _ k2)).trans k2
      have b3 := (hB.cell (World.block_lt_of_cell? w _ k3)).trans k3
      have hok1 := hok.below hB (Nat.le_refl _)
      clear k0 k1 k2 k3 hok h
      obtain ⟨W, hW⟩ : ∃ W, wr.alloc (.cells #[.bool R.up.neg, .slice R.up.at_ R.up.ds.length R.up.cap, .bool R.dn.neg, .slice R.dn.at_ R.dn.ds.length R.dn.cap] 58) = W := ⟨_, rfl⟩
      have bf : Blk W wr.heap.size 58 #[.bool R.up.neg, .slice R.up.at_ R.up.ds.length R.up.cap, .bool R.dn.neg, .slice R.dn.at_ R.dn.ds.length R.dn.cap] := by rw [← hW]; exact Blk.new _ _ _
      have hb2 : Below wr.heap.size wr W := by rw [← hW]; exact (Below.refl _ _).alloc (Nat.le_refl _) _
      have hok2 := hok1.below hb2 (Nat.le_refl _)
      have sb : Below w.heap.size w W := hB.trans (hb2.mono hB.size)
      have HW := hide hW
      clear hW hb2 hok1
      go_upto_region 4 with (fail)
      rw [HW.out]
      clear HW b0 b1 b2 b3
      generalize wr.heap.size = G at bf ⊢
      obtain ⟨f0, f1, f2, f3, -⟩ := bf.c4
      go_wp2_with fail
      refine (odd2 R.up R.dn W hok2.up hok2.dn).mono ?_
      rintro e w2 ⟨o, rfl, hb3, hodd⟩
      replace bf := bf.below hb3 bf.lt
      replace sb := sb.trans (hb3.mono sb.size)
      replace hok2 := hok2.below hb3 (Nat.le_refl _)
      clear f0 f1 f2 f3 hb3
      cases o with
      | true =>
        clear hodd
        go_wp2_with fail
        rw [← HP.out]
        exact ⟨_, rfl, sb, fun h => by cases h⟩
      | false =>
        clear hodd
        obtain ⟨f0, f1, f2, f3, -⟩ := bf.c4
        by_cases h5 : R.up.ds.length ≤ 5
        · have e1 : decide ((5 : Int) < (R.up.ds.length : Int)) = false := decide_eq_false (by omega)
          have e2 : ¬ (5 : Int) < (R.up.ds.length : Int) := by omega
          have e3 : decide (5 < R.up.ds.length) = false := decide_eq_false (by omega)
          by_cases h6 : R.dn.ds.length ≤ 5
          · have e4 : decide ((5 : Int) < (R.dn.ds.length : Int)) = false := decide_eq_false (by omega)
            have e5 : ¬ (5 : Int) < (R.dn.ds.length : Int) := by omega
            have e6 : decide (5 < R.dn.ds.length) = false := decide_eq_false (by omega)
            go_wp2_with fail
            refine (RRight2_any R.up R.dn w2 hok2.up hok2.dn (by omega) (by omega)).mono ?_
            rintro e w3 ⟨rfl, hb4⟩
            replace sb := sb.trans (hb4.mono sb.size)
            clear f0 f1 f2 f3 hb4
            cases hv : frightB R.up R.dn with
            | true =>
              have HG := hide (HN.out ⟨h5, h6, hv⟩)
              clear hv
              go_wp2_with fail
              go_roundg (gk - 1)
              case measure => omega
              case rel => exact ⟨j + 1, by omega, by go_num, HG, sb⟩
            | false =>
              clear hv
              go_wp2_with fail
              rw [← HP.out]
              exact ⟨_, rfl, sb, fun h => by cases h⟩
          · have e4 : decide ((5 : Int) < (R.dn.ds.length : Int)) = true := decide_eq_true (by omega)
            have e5 : (5 : Int) < (R.dn.ds.length : Int) := by omega
            have e6 : decide (5 < R.dn.ds.length) = true := decide_eq_true (by omega)
            go_wp2_with fail
            rw [← HP.out]
            exact ⟨_, rfl, sb, fun h => by cases h⟩
        · have e1 : decide ((5 : Int) < (R.up.ds.length : Int)) = true := decide_eq_true (by omega)
          have e2 : (5 : Int) < (R.up.ds.length : Int) := by omega
          have e3 : decide (5 < R.up.ds.length) = true := decide_eq_true (by omega)
          go_wp2_with fail
          rw [← HP.out]
          exact ⟨_, rfl, sb, fun h => by cases h⟩
end Go.Proofs.YthpibilefdmemaaDoor
