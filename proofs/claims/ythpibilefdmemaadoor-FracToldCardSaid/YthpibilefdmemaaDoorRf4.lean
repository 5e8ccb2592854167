/- collatorref02's Floor, Same, Text, Right: by their contracts. -/
import Derived.Test.YthpibilefdmemaaDoorRf3
namespace Go.Proofs.YthpibilefdmemaaDoor
open Go.RowKit

/-- What the document's Floor leaves. -/
def RFloorPost (w : World) (q : Rat) (e : Ending) (w' : World) : Prop := ∃ r, e = .returned (.tuple #[r, .bool (decide (q.den = 1))]) ∧ NumV w' r q.floor ∧ Below w.heap.size w w'

set_option maxRecDepth 100000 in
set_option maxHeartbeats 6400000 in
theorem RFloor2_any {p : Rat} {u : Value} (w : World) (hx : RFracV w u p) (hp : Qr p) : Calls Tryd.prog 52 #[u] w (RFloorPost w p) := by
  generalize hP : RFloorPost w p = Post
  have HP := hide hP
  clear hP
  obtain ⟨sx, sd, -, -, -, -, -, -⟩ := Qr.dm hp hp
  have HF : Hid (p.num / (p.den : Int) = p.floor) := hide (by rw [Rat.floor_def])
  have HZ : Hid (decide (dlen (p.num % (p.den : Int)) = 0) = decide (p.den = 1)) := hide (by rw [decide_eq_decide, dlen_eq_zero, rest_zero])
  have hd0 : ¬ (p.den : Int) = 0 := by have := p.den_nz; omega
  obtain ⟨xn, xa, xl, xk, xm, xb, xi, xj, rfl, hx1, hx2⟩ := RFracV.parts hx
  obtain ⟨W, hW⟩ : ∃ W, ((w.alloc (.cells #[.bool xn, .slice xa xl xk, .bool xm, .slice xb xi xj] 64)).alloc (.cells #[.bool false, .slice none 0 0] 30)) = W := ⟨_, rfl⟩
  have bx : Blk W w.heap.size 64 #[.bool xn, .slice xa xl xk, .bool xm, .slice xb xi xj] := by rw [← hW]; exact (Blk.new w _ _).alloc _
  have bR : Blk W (w.heap.size + 1) 30 #[.bool false, .slice none 0 0] := by rw [← hW]; exact Blk.new_at _ _ _ (by simp)
  have sb : Below w.heap.size w W := by rw [← hW]; exact ((Below.refl w.heap.size w).alloc (Nat.le_refl _) _).alloc (by simp) _
  obtain ⟨cx0, cx1, cx2, cx3, -⟩ := bx.c4
  have hK : Kp w 30 (w.heap.size + 1) W := ⟨sb, by omega, _, _, _, _, bR⟩
  have HW := hide hW
  clear hW bx bR
  go_enter Tryd.func52, Tryd.ntmps52
  go_upto_region 1 with (fail)
  rw [HW.out]
  clear HW
  have HD0 := hide hd0
  clear hd0
  go_wp2_with fail
  refine (RDiv_any W (hx1.below sb (Nat.le_refl _)) (hx2.below sb (Nat.le_refl _)) sx sd).mono ?_
  rintro e w1 ⟨q, r, rfl, hq, hr, hb1⟩
  rw [if_neg HD0.out] at hq hr
  obtain ⟨qn, qa, ql, qc, rfl⟩ := hq.parts
  obtain ⟨rn, ra, rl, rc, rfl⟩ := hr.parts
  clear cx0 cx1 cx2 cx3
  replace hK := hK.below hb1
  have hLR : w.heap.size + 1 < w1.heap.size := by obtain ⟨_, _, _, _, h⟩ := hK.blk; exact h.lt
  obtain ⟨wz, hwz⟩ : ∃ w5, (w1.alloc (.cells #[.bool false, .slice none 0 0] 30)).alloc (.cells #[.bool false, .slice none 0 0] 30) = w5 := ⟨_, rfl⟩
  obtain ⟨⟨q0, q1, q2, q3, q4, q5⟩, w2, hw2, hBq, hBr, hbz⟩ := boxes2 hwz (.bool qn) (.slice qa ql qc) (.bool rn) (.slice ra rl rc)
  replace hK := hK.below hbz
  replace hq := hq.below hbz (Nat.le_refl _)
  replace hr := hr.below hbz (Nat.le_refl _)
  have HW := hide hw2
  clear hw2
  go_upto_region 2 with (fail)
  rw [HW.out]
  clear HW hwz q0 q1 q2 q3 q4 q5
  generalize hG : w1.heap.size = G at hBq hBr hLR ⊢
  clear hG
  obtain ⟨s0, s1, -⟩ := hBq.c2
  obtain ⟨t0, t1, -⟩ := hBr.c2
  have htl := hr.sign.2
  have HT : Hid (decide (rl = 0) = decide (p.den = 1)) := hide (by rw [htl]; exact HZ.out)
  clear htl
  generalize hDD : decide (p.den = 1) = D at *
  have HDD := hide hDD
  clear hDD
  have HT2 : Hid (((rl : Int) == 0) = D) := hide (by rw [← HT.out]; by_cases h : rl = 0 <;> simp [h])
  obtain ⟨_, _, _, _, k0, k1, kf0, kf1, hX4⟩ := Kp.at (t := 30) (g := w.heap.size + 1) (w := w) hK (Below.refl _ _)
  have hI := hq.st2 hX4 (.bool qn) (.slice qa ql qc)
  obtain ⟨e0, e1, -⟩ := (hX4.two (.bool qn) (.slice qa ql qc)).c2
  have hB2 := set2b hK.bel hK.le 0 1 (.bool qn) (.slice qa ql qc)
  rw [HF.out] at hI
  have n5 : G ≠ w.heap.size + 1 := by omega
  have n6 : G + 1 ≠ w.heap.size + 1 := by omega
  have n7 := n5.symm
  have n8 := n6.symm
  go_region
  all_goals
    go_wp2_with fail
    refine bodyPost_ret (v := .tuple #[.agg #[.bool qn, .slice qa ql qc], .bool D]) (by have h2 := HT2.out; simp [results, Tryd.results52, go_sem, e0, e1, h2]) rfl ?_
    rw [← HP.out]
    exact ⟨_, by rw [HDD.out], hI, by first | exact hB2.drew | exact hB2⟩

set_option maxRecDepth 100000 in
set_option maxHeartbeats 6400000 in
theorem Same2_any {a b c d : Int} {u v : Value} (w : World) (hx : FrV w u a b) (hy : FrV w v c d) (ha : Sm a) (hb : Sm b) : Calls Tryd.prog 40 #[u, v] w fun e w' => e = .returned (.bool (decide (a = c ∧ b = d))) ∧ Below w.heap.size w w' := by
  generalize hr : decide (a = c ∧ b = d) = r
  have HR := hide hr
  clear hr
  obtain ⟨xn, xa, xl, xk, xm, xb, xi, xj, rfl, hx1, hx2⟩ := FrV.parts hx
  obtain ⟨yn, ya, yl, yk, ym, yb, yi, yj, rfl, hy1, hy2⟩ := FrV.parts hy
  obtain ⟨W, hW⟩ : ∃ W, ((w.alloc (.cells #[.bool xn, .slice xa xl xk, .bool xm, .slice xb xi xj] 58)).alloc (.cells #[.bool yn, .slice ya yl yk, .bool ym, .slice yb yi yj] 58)) = W := ⟨_, rfl⟩
  have bx : Blk W w.heap.size 58 #[.bool xn, .slice xa xl xk, .bool xm, .slice xb xi xj] := by rw [← hW]; exact (Blk.new w _ _).alloc _
  have by_ : Blk W (w.heap.size + 1) 58 #[.bool yn, .slice ya yl yk, .bool ym, .slice yb yi yj] := by rw [← hW]; exact Blk.new_at _ _ _ (by simp)
  have sb : Below w.heap.size w W := by rw [← hW]; exact ((Below.refl w.heap.size w).alloc (Nat.le_refl _) _).alloc (by simp) _
  obtain ⟨cx0, cx1, cx2, cx3, -⟩ := bx.c4
  obtain ⟨cy0, cy1, cy2, cy3, -⟩ := by_.c4
  have HW := hide hW
  clear hW
  go_enter Tryd.func40, Tryd.ntmps40
  go_upto_region 1 with (fail)
  rw [HW.out]
  clear HW
  go_wp2_with fail
  refine (Same_any W (hx1.below sb (Nat.le_refl _)) (hy1.below sb (Nat.le_refl _)) ha).mono ?_
  rintro e w1 ⟨rfl, hb1⟩
  by_cases h1 : a = c
  · have e1 := decide_eq_true h1
    replace bx := bx.below hb1 bx.lt
    replace by_ := by_.below hb1 by_.lt
    replace sb := sb.trans (hb1.mono sb.size)
    have HV : Hid (decide (b = d) = r) := hide (by rw [← HR.out]; simp [h1])
    clear h1 cx0 cx1 cx2 cx3 cy0 cy1 cy2 cy3 hb1
    obtain ⟨cx0, cx1, cx2, cx3, -⟩ := bx.c4
    obtain ⟨cy0, cy1, cy2, cy3, -⟩ := by_.c4
    go_wp2_with fail
    refine (Same_any w1 (hx2.below sb (Nat.le_refl _)) (hy2.below sb (Nat.le_refl _)) hb).mono ?_
    rintro e w2 ⟨rfl, hb2⟩
    clear e1
    rw [HV.out]
    go_wp2_with fail
    go_ret
    exact ⟨rfl, sb.trans (hb2.mono sb.size)⟩
  · have e1 := decide_eq_false h1
    have HV : Hid (r = false) := hide (by rw [← HR.out]; simp [h1])
    clear h1 cx0 cx1 cx2 cx3 cy0 cy1 cy2 cy3
    go_wp2_with fail
    go_ret
    exact ⟨by rw [HV.out]; rfl, sb.trans (hb1.mono sb.size)⟩

theorem und_inj {p q : Rat} : (p.num = q.num ∧ und p = und q) ↔ p = q := by
  constructor
  · rintro ⟨h1, h2⟩
    refine Rat.ext h1 ?_
    have h3 := ben_und p
    have h4 := ben_und q
    rw [h2] at h3
    omega
  · rintro rfl; exact ⟨rfl, rfl⟩
/-- Two fractions by their values. -/
theorem Same3_any {p q : Rat} {u v : Value} (w : World) (hx : FracV w u p) (hy : FracV w v q) (hp : Qz p) : Calls Tryd.prog 40 #[u, v] w fun e w' => e = .returned (.bool (decide (p = q))) ∧ Below w.heap.size w w' := by
  obtain ⟨s1, -, s2, -⟩ := Qz.sm hp hp
  have h := Same2_any w hx hy s1 s2
  rwa [show decide (p.num = q.num ∧ und p = und q) = decide (p = q) from decide_eq_decide.2 und_inj] at h
theorem Same3_true {c : World} {p q : Rat} {u v : Value} (hx : FracV c u p) (hy : FracV c v q) (e : p = q) (hp : Qz p) : Calls Tryd.prog 40 #[u, v] c fun e w' => e = .returned (.bool true) ∧ Below c.heap.size c w' := by
  have h := Same3_any c hx hy hp
  rwa [decide_eq_true e] at h

set_option maxRecDepth 100000 in
set_option maxHeartbeats 6400000 in
theorem RText2_any {p : Rat} {u : Value} (w : World) (hx : RFracV w u p) (hp : Qn 20 p) : Calls Tryd.prog 60 #[u] w (FTextPost w p) := by
  generalize hP : FTextPost w p = Post
  have HP := hide hP
  clear hP
  have hpr := hp.r (by decide)
  obtain ⟨sx, sd, -, -, -, -, -, -⟩ := Qr.dm hpr hpr
  have l1 := decZ_len hp.1
  have l2 := decZ_len hp.2
  obtain ⟨xn, xa, xl, xk, xm, xb, xi, xj, rfl, hx1, hx2⟩ := RFracV.parts hx
  obtain ⟨W, hW⟩ : ∃ W, (w.alloc (.cells #[.bool xn, .slice xa xl xk, .bool xm, .slice xb xi xj] 64)) = W := ⟨_, rfl⟩
  have bx : Blk W w.heap.size 64 #[.bool xn, .slice xa xl xk, .bool xm, .slice xb xi xj] := by rw [← hW]; exact Blk.new w _ _
  have sb : Below w.heap.size w W := by rw [← hW]; exact (Below.refl w.heap.size w).alloc (Nat.le_refl _) _
  obtain ⟨cx0, cx1, cx2, cx3, -⟩ := bx.c4
  have HW := hide hW
  clear hW bx
  go_enter Tryd.func60, Tryd.ntmps60
  go_upto_region 1 with (fail)
  rw [HW.out]
  clear HW
  go_wp2_with fail
  refine (RText_any W (hx1.below sb (Nat.le_refl _)) sx).mono ?_
  rintro e w1 ⟨rfl, hb1⟩
  obtain ⟨cx0, cx1, cx2, cx3, sb⟩ := keepZ4 ⟨cx0, cx1, cx2, cx3, sb⟩ hb1
  obtain ⟨C, hC⟩ : ∃ C, ordZ (p.den : Int) 1 = C := ⟨_, rfl⟩
  have HC0 : Hid ((C == 0) = decide (p.den = 1)) := hide (by rw [← hC]; unfold ordZ; by_cases h : p.den = 1 <;> simp [h]; omega)
  have HC := hide hC
  clear hC hb1
  have d1 : Dm 1 := dm_len (show len 1 ≤ 1000000000 from Nat.le_trans (dg_len BB2 (show (1 : Nat) < BB ^ 1 by decide)) (by decide))
  go_upto_region 2 with (fail)
  go_cut [11] from 7 to 10 (fun v11 wc => v11 = .bool (C != 0) ∧ (wc.cell? ⟨w.heap.size, 0, none⟩ = some (.bool xn) ∧ wc.cell? ⟨w.heap.size, 1, none⟩ = some (.slice xa xl xk) ∧ wc.cell? ⟨w.heap.size, 2, none⟩ = some (.bool xm) ∧ wc.cell? ⟨w.heap.size, 3, none⟩ = some (.slice xb xi xj) ∧ Below w.heap.size w wc))
  case first =>
    have sb1 := sb.drew
    go_region_held3 (fun w' => w'.cell? ⟨w.heap.size, 0, none⟩ = some (.bool xn) ∧ w'.cell? ⟨w.heap.size, 1, none⟩ = some (.slice xa xl xk) ∧ w'.cell? ⟨w.heap.size, 2, none⟩ = some (.bool xm) ∧ w'.cell? ⟨w.heap.size, 3, none⟩ = some (.slice xb xi xj) ∧ Below w.heap.size w w')
      (first | with_reducible exact keepZ4 (by assumption) hb1 | go_keep)
      (first
        | (go_at_call_of 19 (Value.int .i64 1); (with_reducible refine (RInt_any 1 _ (by decide) (by decide)).mono ?_); rintro e wN ⟨rA, rfl, hA, hb1⟩)
        | (go_at_call_of 34 rA; (with_reducible refine (RCmp_at (hx2.below (by go_split_ands; assumption) (Nat.le_refl _)) hA sd d1 (Below.refl _ _) HC.out).mono ?_); rintro e wN ⟨rfl, hb1⟩))
    rename_i hS
    go_wp2_with fail
    go_meet
    exact ⟨rfl, hS⟩
  case rest =>
    rename_i wc
    clear cx0 cx1 cx2 cx3 sb
    obtain ⟨rfl, cx0, cx1, cx2, cx3, sb⟩ := hcut
    by_cases h1 : p.den = 1
    · have e0 : (C == 0) = true := by rw [HC0.out, decide_eq_true h1]
      have e1 : (C != 0) = false := by simp only [bne, e0, Bool.not_true]
      have HU : Hid (decQ p = decZ p.num) := hide (by unfold decQ; rw [if_pos h1, List.append_nil])
      clear h1 e0
      rw [e1]
      clear e1
      go_wp2_with fail
      rw [← HP.out]
      exact ⟨by rw [HU.out]; rfl, sb⟩
    · have e0 : (C == 0) = false := by rw [HC0.out, decide_eq_false h1]
      have e1 : (C != 0) = true := by simp only [bne, e0, Bool.not_false]
      have HU : Hid (decQ p = decZ p.num ++ 47 :: decZ (p.den : Int)) := hide (by unfold decQ; rw [if_neg h1])
      have ha1 := fun (w : World) => add_txt w (decZ p.num) [47] (by simp; omega)
      have ha2 := fun (w : World) => add_txt w (decZ p.num ++ [47]) (decZ (p.den : Int)) (by simp; omega)
      clear h1 e0 l1 l2
      rw [e1]
      clear e1
      go_wp2_with fail
      refine (RText_any wc (hx2.below sb (Nat.le_refl _)) sd).mono ?_
      rintro e w3 ⟨rfl, hb3⟩
      go_wp2_with fail
      rw [← HP.out]
      exact ⟨by rw [HU.out]; simp, sb.trans (hb3.mono sb.size)⟩

end Go.Proofs.YthpibilefdmemaaDoor
