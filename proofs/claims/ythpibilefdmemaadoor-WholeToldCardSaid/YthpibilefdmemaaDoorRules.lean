/- The walk of the law WholeRules. -/
import Derived.Test.YthpibilefdmemaaDoorRuleLaw
import Derived.Test.YthpibilefdmemaaDoorOrder
import Derived.Test.YthpibilefdmemaaDoorKeep
namespace Go.Proofs.YthpibilefdmemaaDoor
open Go.RowKit

theorem len_add (x y : Int) : len (x + y) ≤ max (len x) (len y) + 1 := by
  unfold len
  exact Nat.le_trans (dg_len_mono BB2 (show (x + y).natAbs ≤ x.natAbs + y.natAbs by omega)) (dg_len_add BB2 _ _)
theorem len_mul (x y : Int) : len (x * y) ≤ len x + len y := by
  unfold len
  rw [Int.natAbs_mul]
  exact dg_len_mul BB2 _ _
theorem decZ_len {x : Int} (h : len x ≤ 20) : (decZ x).length ≤ 200 := by
  have hl := nDigits_len h
  unfold decZ
  rw [List.length_append, Lib.decDigits_length]
  split <;> simp <;> omega
theorem Same_true {c : World} {x y : Int} {u v : Value} (hx : IntV c u x) (hy : IntV c v y) (e : x = y) (hn : Sm x) :
    Calls Tryd.prog 14 #[u, v] c fun e w' => e = .returned (.bool true) ∧ Below c.heap.size c w' := by
  have h := Same_any c hx hy hn
  rw [decide_eq_true e] at h
  exact h

theorem boxes2 {c w5 : World} {t : TypeId} (h5 : (c.alloc (.cells #[.bool false, .slice none 0 0] t)).alloc (.cells #[.bool false, .slice none 0 0] t) = w5) (q0 q1 r0 r1 : Value) :
    (w5.cell? ⟨c.heap.size, 0, none⟩ = some (.bool false) ∧ w5.cell? ⟨c.heap.size, 1, none⟩ = some (.slice none 0 0) ∧ w5.cell? ⟨c.heap.size + 1, 0, none⟩ = some (.bool false) ∧ w5.cell? ⟨c.heap.size + 1, 1, none⟩ = some (.slice none 0 0) ∧ (∀ i, w5.frozen? ⟨c.heap.size, i, none⟩ = false) ∧ ∀ i, w5.frozen? ⟨c.heap.size + 1, i, none⟩ = false) ∧
    ∃ W, (((w5.setCell ⟨c.heap.size, 0, none⟩ q0).setCell ⟨c.heap.size, 1, none⟩ q1).setCell ⟨c.heap.size + 1, 0, none⟩ r0).setCell ⟨c.heap.size + 1, 1, none⟩ r1 = W ∧ Blk W c.heap.size t #[q0, q1] ∧ Blk W (c.heap.size + 1) t #[r0, r1] ∧ Below c.heap.size c W := by
  have hA : Blk w5 c.heap.size t #[.bool false, .slice none 0 0] := by rw [← h5]; exact (Blk.new c _ _).alloc _
  have hE : Blk w5 (c.heap.size + 1) t #[.bool false, .slice none 0 0] := by rw [← h5]; exact Blk.new_at _ _ _ (by simp)
  have hb5 : Below c.heap.size c w5 := by rw [← h5]; exact ((Below.refl _ _).alloc (Nat.le_refl _) _).alloc (by simp) _
  obtain ⟨a0, a1, af⟩ := hA.c2
  obtain ⟨e0, e1, ef⟩ := hE.c2
  refine ⟨⟨a0, a1, e0, e1, af, ef⟩, _, rfl, ?_, ?_, ?_⟩
  · exact ((hA.two q0 q1).far (p := ⟨c.heap.size + 1, 0, none⟩) (by simp) r0).far (p := ⟨c.heap.size + 1, 1, none⟩) (by simp) r1
  · exact ((hE.far (p := ⟨c.heap.size, 0, none⟩) (by simp) q0).far (p := ⟨c.heap.size, 1, none⟩) (by simp) q1).two r0 r1
  · exact (((hb5.setCell (Nat.le_refl _) _).setCell (Nat.le_refl _) _).setCell (by simp) _).setCell (by simp) _
theorem IntV.sign {w : World} {n : Bool} {a : Option Addr} {l k : Nat} {z : Int} (h : IntV w (.agg #[.bool n, .slice a l k]) z) : n = decide (z < 0) ∧ l = len z := by
  obtain ⟨a', c', e, -, -⟩ := h
  simp at e
  exact ⟨e.1, e.2.2.1⟩
theorem IntV.size {w : World} {n : Bool} {a : Option Addr} {l k : Nat} {z : Int} (h : IntV w (.agg #[.bool n, .slice a l k]) z) : IntV w (.agg #[.bool false, .slice a l k]) (z.natAbs : Int) := by
  obtain ⟨a', c', e, hf, hd⟩ := h
  simp at e
  obtain ⟨-, rfl, rfl, rfl⟩ := e
  exact ⟨a, k, by simp, by simpa using hf, by simpa using hd⟩
theorem div_small (x y : Int) : (x / y).natAbs ≤ x.natAbs := Int.natAbs_ediv_le_natAbs x y
theorem len_zero : len 0 = 0 := rfl

set_option maxRecDepth 100000 in
set_option maxHeartbeats 3200000 in
theorem rules_walk (x y z : Raw) (w : World) (hx : RawOk w x) (hy : RawOk w y) (hz : RawOk w z) (ht : Tab w) :
    Calls Tryd.prog 6 #[x.val, y.val, z.val] w fun e w' => e = .returned (.bool true) ∧ Below w.heap.size w w' := by
  obtain ⟨W, hW⟩ : ∃ W, ((w.alloc (.cells #[.bool x.neg, .slice x.at_ x.ds.length x.cap] 24)).alloc (.cells #[.bool y.neg, .slice y.at_ y.ds.length y.cap] 24)).alloc (.cells #[.bool z.neg, .slice z.at_ z.ds.length z.cap] 24) = W := ⟨_, rfl⟩
  have s0 : Three w w.heap.size x y z W := by
    rw [← hW]
    exact ⟨((Blk.new w _ _).alloc _).alloc _, (Blk.new_at _ _ _ (by simp)).alloc _, Blk.new_at _ _ _ (by simp), (((Below.refl _ _).alloc (Nat.le_refl _) _).alloc (by simp) _).alloc (by simp; omega) _⟩
  unfold Raw.val
  go_enter Tryd.func6, Tryd.ntmps6
  go_wp2_with fail
  refine (speaks_any W (ht.atBelow s0.2.2.2 (Nat.le_refl _))).mono ?_
  rintro e w1 ⟨rfl, hb1⟩
  have s1 := s0.grow hb1
  clear s0 hb1
  obtain ⟨x0, x1, -⟩ := s1.1.c2
  obtain ⟨y0, y1, -⟩ := s1.2.1.c2
  obtain ⟨z0, z1, -⟩ := s1.2.2.1.c2
  go_wp2_with fail
  refine (odd3 x y z w1 (hx.below s1.2.2.2 (Nat.le_refl _)) (hy.below s1.2.2.2 (Nat.le_refl _)) (hz.below s1.2.2.2 (Nat.le_refl _))).mono ?_
  rintro e w2 ⟨o, rfl, hb2, hodd⟩
  have s2 := s1.grow hb2
  cases o with
  | true =>
    clear x0 x1 y0 y1 z0 z1
    go_wp2_with fail
    go_ret
    exact ⟨rfl, s2.2.2.2⟩
  | false =>
    obtain ⟨ox, oy, oz⟩ := hodd rfl
    obtain ⟨X, hX, lX⟩ := hx.int ox
    obtain ⟨Y, hY, lY⟩ := hy.int oy
    obtain ⟨Z, hZ, lZ⟩ := hz.int oz
    clear x0 x1 y0 y1 z0 z1 ox oy oz hodd hx hy hz hb2 s1
    obtain ⟨n1, a1, c1, d1⟩ := x
    obtain ⟨n2, a2, c2, d2⟩ := y
    obtain ⟨n3, a3, c3, d3⟩ := z
    unfold Raw.val at hX hY hZ
    unfold Three at s2
    simp only at hX hY hZ s2 ⊢
    generalize d1.length = l1 at *
    generalize d2.length = l2 at *
    generalize d3.length = l3 at *
    obtain ⟨sx, sy, sz, sb⟩ := s2
    obtain ⟨x0, x1, -⟩ := sx.c2
    obtain ⟨y0, y1, -⟩ := sy.c2
    obtain ⟨z0, z1, -⟩ := sz.c2
    clear sx sy sz hW
    have l1' := len_add X Y
    have l2' := len_mul X Y
    have l3' := len_add Y Z
    have l4' := len_mul X Z
    have l5' := len_mul X (Y + Z)
    have l6' := len_add (X * Y) (X * Z)
    have l7' := len_neg Y
    have l8' := len_add (X + Y) (-Y)
    have sX := sm10 lX
    have sY := sm10 lY
    have sZ := sm10 lZ
    have sXY : Sm (X + Y) := by unfold Sm; omega
    have sYZ : Sm (Y + Z) := by unfold Sm; omega
    have sMM : Sm (X * Y) := by unfold Sm; omega
    have sMZ : Sm (X * Z) := by unfold Sm; omega
    have sMS : Sm (X * (Y + Z)) := by unfold Sm; omega
    have sNY : Sm (-Y) := by unfold Sm; omega
    have sLast : Sm (X + Y + -Y) := by unfold Sm; omega
    clear l1' l2' l3' l4' l5' l6' l7' l8'
    have HE1 := hide (Int.add_comm X Y)
    have HE2 := hide (Int.mul_comm X Y)
    have HE3 := hide (Int.mul_add X Y Z)
    have HE4 := hide (show X + Y + -Y = X by omega)
    have sb1 := sb.drew
    go_upto_region 5 with (fail)
    go_cut [68] from 24 to 67 (fun v68 wc => v68 = .bool false ∧ (wc.cell? ⟨w.heap.size, 0, none⟩ = some (.bool n1) ∧ wc.cell? ⟨w.heap.size, 1, none⟩ = some (.slice a1 l1 c1) ∧ wc.cell? ⟨w.heap.size + 1, 0, none⟩ = some (.bool n2) ∧ wc.cell? ⟨w.heap.size + 1, 1, none⟩ = some (.slice a2 l2 c2) ∧ wc.cell? ⟨w.heap.size + 2, 0, none⟩ = some (.bool n3) ∧ wc.cell? ⟨w.heap.size + 2, 1, none⟩ = some (.slice a3 l3 c3) ∧ Below w.heap.size w wc))
    case first =>
      go_region_held3 (fun w' => w'.cell? ⟨w.heap.size, 0, none⟩ = some (.bool n1) ∧ w'.cell? ⟨w.heap.size, 1, none⟩ = some (.slice a1 l1 c1) ∧ w'.cell? ⟨w.heap.size + 1, 0, none⟩ = some (.bool n2) ∧ w'.cell? ⟨w.heap.size + 1, 1, none⟩ = some (.slice a2 l2 c2) ∧ w'.cell? ⟨w.heap.size + 2, 0, none⟩ = some (.bool n3) ∧ w'.cell? ⟨w.heap.size + 2, 1, none⟩ = some (.slice a3 l3 c3) ∧ Below w.heap.size w w')
        (first | with_reducible exact keepT (by assumption) hb1 | go_keep)
        (first
          | (go_at_call_of 27 (Value.agg #[.bool n2, .slice a2 l2 c2]); (with_reducible refine (Mul_at hX hY sX sY (by go_split_ands; assumption)).mono ?_); rintro e wR ⟨rR, rfl, hR, hb1⟩; have hQ2 := hQ.below hb1 (Nat.le_refl _))
          | (go_at_call_of 25 (Value.agg #[.bool n2, .slice a2 l2 c2]); (with_reducible refine (Add_at hX hY sX sY (by go_split_ands; assumption)).mono ?_); rintro e wA ⟨rA, rfl, hA, hb1⟩)
          | (go_at_call_of 25 (Value.agg #[.bool n1, .slice a1 l1 c1]); (with_reducible refine (Add_at hY hX sY sX (by go_split_ands; assumption)).mono ?_); rintro e wB ⟨rB, rfl, hB, hb1⟩; have hA2 := hA.below hb1 (Nat.le_refl _))
          | (go_at_call_of 14 rB; (with_reducible refine (Same_true hA2 hB HE1.out sXY).mono ?_); rintro e wC ⟨rfl, hb1⟩)
          | (go_at_call_of 27 (Value.agg #[.bool n2, .slice a2 l2 c2]); (with_reducible refine (Mul_at hX hY sX sY (by go_split_ands; assumption)).mono ?_); rintro e wA ⟨rM, rfl, hM, hb1⟩)
          | (go_at_call_of 27 (Value.agg #[.bool n1, .slice a1 l1 c1]); (with_reducible refine (Mul_at hY hX sY sX (by go_split_ands; assumption)).mono ?_); rintro e wB ⟨rN, rfl, hN, hb1⟩; have hM2 := hM.below hb1 (Nat.le_refl _))
          | (go_at_call_of 14 rN; (with_reducible refine (Same_true hM2 hN HE2.out sMM).mono ?_); rintro e wC ⟨rfl, hb1⟩)
          | (go_at_call_of 25 (Value.agg #[.bool n3, .slice a3 l3 c3]); (with_reducible refine (Add_at hY hZ sY sZ (by go_split_ands; assumption)).mono ?_); rintro e wA ⟨rP, rfl, hPv, hb1⟩)
          | (go_at_call_of 27 rP; (with_reducible refine (Mul_any _ (hX.below (by go_split_ands; assumption) (Nat.le_refl _)) hPv sX sYZ).mono ?_); rintro e wA ⟨rQ, rfl, hQ, hb1⟩)
          | (go_at_call_of 27 (Value.agg #[.bool n3, .slice a3 l3 c3]); (with_reducible refine (Mul_at hX hZ sX sZ (by go_split_ands; assumption)).mono ?_); rintro e wA ⟨rS, rfl, hS, hb1⟩; have hR2 := hR.below hb1 (Nat.le_refl _); have hQ3 := hQ2.below hb1 (Nat.le_refl _))
          | (go_at_call_of 25 rS; (with_reducible refine (Add_any _ hR2 hS sMM sMZ).mono ?_); rintro e wA ⟨rT, rfl, hT, hb1⟩; have hQ4 := hQ3.below hb1 (Nat.le_refl _))
          | (go_at_call_of 14 rT; (with_reducible refine (Same_true hQ4 hT HE3.out sMS).mono ?_); rintro e wC ⟨rfl, hb1⟩)
          | (go_at_call_of 29 (Value.agg #[.bool n2, .slice a2 l2 c2]); (with_reducible refine (Neg_any _ (hY.below (by go_split_ands; assumption) (Nat.le_refl _)) sY).mono ?_); rintro e wA ⟨rU, rfl, hU, hb1⟩; have hA3 := hA.below hb1 (Nat.le_refl _))
          | (go_at_call_of 25 rU; (with_reducible refine (Add_any _ hA3 hU sXY sNY).mono ?_); rintro e wA ⟨rV, rfl, hV, hb1⟩)
          | (go_at_call_of 14 rV; (with_reducible refine (Same_true hV (hX.below (by go_split_ands; assumption) (Nat.le_refl _)) HE4.out sLast).mono ?_); rintro e wC ⟨rfl, hb1⟩))
      rename_i hS
      go_wp2_with fail
      go_meet
      exact ⟨rfl, hS⟩
    case rest =>
      obtain ⟨rfl, x0, x1, y0, y1, z0, z1, sb⟩ := hcut
      clear sb1 HE1 HE2 HE3 HE4 sXY sYZ sMM sMZ sMS sNY sLast
      obtain ⟨pok, pnum⟩ := parse_text (x := X) (by omega)
      have hdl := decZ_len (x := X) (by omega)
      have ht1 := ht.atBelow sb (Nat.le_refl _)
      have HX1 := hX.below sb (Nat.le_refl _)
      go_wp2_with fail
      refine (Text_any _ HX1 sX ht1).mono ?_
      rintro e w4 ⟨rfl, hb4⟩
      obtain ⟨x0, x1, y0, y1, z0, z1, sb⟩ := keepT ⟨x0, x1, y0, y1, z0, z1, sb⟩ hb4
      go_wp2_with fail
      refine (Parse_any (decZ X) w4 (by omega)).mono ?_
      rintro e w5 ⟨r5, rfl, h5, hb5⟩
      rw [pok]
      rw [pnum] at h5
      obtain ⟨rn, ra, rl, rc, rfl⟩ := h5.parts
      obtain ⟨x0, x1, y0, y1, z0, z1, sb⟩ := keepT ⟨x0, x1, y0, y1, z0, z1, sb⟩ hb5
      have hT := Blk.new w5 24 #[.bool rn, .slice ra rl rc]
      have hb6 : Below w5.heap.size w5 (w5.alloc (.cells #[.bool rn, .slice ra rl rc] 24)) := (Below.refl _ _).alloc (Nat.le_refl _) _
      obtain ⟨x0, x1, y0, y1, z0, z1, sb⟩ := keepT ⟨x0, x1, y0, y1, z0, z1, sb⟩ hb6
      go_upto_region 8 with (fail)
      generalize w5.alloc (.cells #[.bool rn, .slice ra rl rc] 24) = w6 at *
      obtain ⟨t0, t1, -⟩ := hT.c2
      have h6 := h5.below hb6 (Nat.le_refl _)
      go_wp2_with fail
      refine (Same_true h6 (hX.below sb (Nat.le_refl _)) rfl sX).mono ?_
      rintro e w7 ⟨rfl, hb7⟩
      obtain ⟨x0, x1, y0, y1, z0, z1, sb⟩ := keepT ⟨x0, x1, y0, y1, z0, z1, sb⟩ hb7
      clear t0 t1 hT h6 h5 hb4 hb5 hb6 hb7 HX1 pok pnum hdl
      go_upto_if 86 with (fail)
      have hl2 : l2 = len Y ∧ n2 = decide (Y < 0) := by
        obtain ⟨a, c, h, -, -⟩ := hY
        simp at h
        exact ⟨h.2.2.1, h.1⟩
      by_cases hY0 : Y = 0
      · have e2 : ((l2 : Int) == 0) = true := by rw [hl2.1, hY0]; rfl
        clear hl2 hY0
        go_wp2_with fail
        go_ret
        exact ⟨rfl, sb⟩
      · have hl0 : l2 ≠ 0 := by
          rw [hl2.1]
          intro h
          have := (dg_eq_nil BB2).1 (List.eq_nil_of_length_eq_zero h)
          omega
        have e2 : ((l2 : Int) == 0) = false := beq_eq_false_iff_ne.2 (by omega)
        have HL2 := hide hl2
        clear hl2
        go_wp2_with fail
        refine (Div_any w7 (hX.below sb (Nat.le_refl _)) (hY.below sb (Nat.le_refl _)) sX sY).mono ?_
        rintro e w8 ⟨q, r, rfl, hq, hr, hb8⟩
        rw [if_neg hY0] at hq hr
        obtain ⟨x0, x1, y0, y1, z0, z1, sb⟩ := keepT ⟨x0, x1, y0, y1, z0, z1, sb⟩ hb8
        have hXw := hX.below sb (Nat.le_refl _)
        have hYw := hY.below sb (Nat.le_refl _)
        have lq := len_le (div_small X Y)
        have lr := len_le (x := X % Y) (y := Y) (by have h1 := Int.emod_nonneg X hY0; have h2 := Int.emod_lt X hY0; omega)
        have sq : Sm (X / Y) := by unfold Sm; omega
        have sr : Sm (X % Y) := by unfold Sm; omega
        have lg := len_le (x := ((Nat.gcd X.natAbs Y.natAbs : Nat) : Int)) (y := Y) (by have := Nat.le_of_dvd (by omega) (Nat.gcd_dvd_right X.natAbs Y.natAbs); omega)
        have sg : Sm ((Nat.gcd X.natAbs Y.natAbs : Nat) : Int) := by unfold Sm; omega
        have hg0 : ((Nat.gcd X.natAbs Y.natAbs : Nat) : Int) ≠ 0 := by have := Nat.gcd_pos_of_pos_right X.natAbs (show 0 < Y.natAbs by omega); omega
        have HGD := hide (gcd_divides X Y)
        have HY0 := hide hY0
        clear hb8 lq lr lg z0 z1 hl0
        obtain ⟨qn, qa, ql, qc, rfl⟩ := hq.parts
        obtain ⟨rn, ra, rl, rc, rfl⟩ := hr.parts
        obtain ⟨w8z, hzw8⟩ : ∃ w5, (w8.alloc (.cells #[.bool false, .slice none 0 0] 24)).alloc (.cells #[.bool false, .slice none 0 0] 24) = w5 := ⟨_, rfl⟩
        obtain ⟨⟨q0, q1, q2, q3, q4, q5⟩, w9, hww9, hBq, hBr, hbw9⟩ := boxes2 hzw8 (.bool qn) (.slice qa ql qc) (.bool rn) (.slice ra rl rc)
        have HW := hide hww9
        clear hww9
        go_upto_region 13 with (fail)
        rw [HW.out]
        clear HW hzw8 q0 q1 q2 q3 q4 q5
        generalize hgq : w8.heap.size = g9 at hBq hBr ⊢
        clear hgq
        obtain ⟨x0, x1, y0, y1, -, -, sb⟩ := keepT ⟨x0, x1, y0, y1, x0, x1, sb⟩ hbw9
        replace hq := hq.below hbw9 (Nat.le_refl _)
        replace hr := hr.below hbw9 (Nat.le_refl _)
        replace hXw := hX.below sb (Nat.le_refl _)
        replace hYw := hY.below sb (Nat.le_refl _)
        clear hbw9
        go_wp2_with fail
        refine (Gcd_any w9 hXw hYw sX sY).mono ?_
        rintro e w10 ⟨g, rfl, hg, hb10⟩
        obtain ⟨gn, ga, gl, gc, rfl⟩ := hg.parts
        obtain ⟨x0, x1, y0, y1, -, -, sb⟩ := keepT ⟨x0, x1, y0, y1, x0, x1, sb⟩ hb10
        replace hBq := hBq.below hb10 hBq.lt
        replace hBr := hBr.below hb10 hBr.lt
        replace hq := hq.below hb10 (Nat.le_refl _)
        replace hr := hr.below hb10 (Nat.le_refl _)
        obtain ⟨w11, hw11⟩ : ∃ w11, w10.alloc (.cells #[.bool gn, .slice ga gl gc] 24) = w11 := ⟨_, rfl⟩
        have hBg : Blk w11 w10.heap.size 24 #[.bool gn, .slice ga gl gc] := by rw [← hw11]; exact Blk.new _ _ _
        have hb11 : Below w10.heap.size w10 w11 := by rw [← hw11]; exact (Below.refl _ _).alloc (Nat.le_refl _) _
        obtain ⟨x0, x1, y0, y1, -, -, sb⟩ := keepT ⟨x0, x1, y0, y1, x0, x1, sb⟩ hb11
        replace hBq := hBq.below hb11 hBq.lt
        replace hBr := hBr.below hb11 hBr.lt
        replace hq := hq.below hb11 (Nat.le_refl _)
        replace hr := hr.below hb11 (Nat.le_refl _)
        replace hg := hg.below hb11 (Nat.le_refl _)
        have HW := hide hw11
        clear hw11 hb10 hb11
        go_upto_region 14 with (fail)
        rw [HW.out]
        clear HW
        generalize hgg : w10.heap.size = g11 at hBg ⊢
        clear hgg
        replace hXw := hX.below sb (Nat.le_refl _)
        replace hYw := hY.below sb (Nat.le_refl _)
        obtain ⟨u0, u1, -⟩ := hBg.c2
        go_wp2_with fail
        refine (Div_any w11 hXw hg sX sg).mono ?_
        rintro e w12 ⟨p, a, rfl, hp, ha, hbw12⟩
        rw [if_neg hg0] at hp ha
        rw [HGD.out.1] at ha
        obtain ⟨x0, x1, y0, y1, -, -, sb⟩ := keepT ⟨x0, x1, y0, y1, x0, x1, sb⟩ hbw12
        clear u0 u1
        replace hBq := hBq.below hbw12 hBq.lt
        replace hBr := hBr.below hbw12 hBr.lt
        replace hBg := hBg.below hbw12 hBg.lt
        replace hq := hq.below hbw12 (Nat.le_refl _)
        replace hr := hr.below hbw12 (Nat.le_refl _)
        replace hg := hg.below hbw12 (Nat.le_refl _)
        obtain ⟨pn, pa, pl, pc, rfl⟩ := hp.parts
        obtain ⟨an, aa, al, ac, rfl⟩ := ha.parts
        obtain ⟨w12z, hzw12⟩ : ∃ w5, (w12.alloc (.cells #[.bool false, .slice none 0 0] 24)).alloc (.cells #[.bool false, .slice none 0 0] 24) = w5 := ⟨_, rfl⟩
        obtain ⟨⟨q0, q1, q2, q3, q4, q5⟩, w13, hww13, hBp, hBa, hbw13⟩ := boxes2 hzw12 (.bool pn) (.slice pa pl pc) (.bool an) (.slice aa al ac)
        have HW := hide hww13
        clear hww13
        go_upto_region 15 with (fail)
        rw [HW.out]
        clear HW hzw12 q0 q1 q2 q3 q4 q5
        generalize hgp : w12.heap.size = g12 at hBp hBa ⊢
        clear hgp
        obtain ⟨x0, x1, y0, y1, -, -, sb⟩ := keepT ⟨x0, x1, y0, y1, x0, x1, sb⟩ hbw13
        replace hBq := hBq.below hbw13 hBq.lt
        replace hBr := hBr.below hbw13 hBr.lt
        replace hBg := hBg.below hbw13 hBg.lt
        replace hq := hq.below hbw13 (Nat.le_refl _)
        replace hr := hr.below hbw13 (Nat.le_refl _)
        replace hg := hg.below hbw13 (Nat.le_refl _)
        replace ha := ha.below hbw13 (Nat.le_refl _)
        clear hp hBp hbw12 hbw13
        replace hXw := hX.below sb (Nat.le_refl _)
        replace hYw := hY.below sb (Nat.le_refl _)
        obtain ⟨u0, u1, -⟩ := hBg.c2
        go_wp2_with fail
        refine (Div_any w13 hYw hg sY sg).mono ?_
        rintro e w14 ⟨d, b, rfl, hd, hb, hbw14⟩
        rw [if_neg hg0] at hd hb
        rw [HGD.out.2] at hb
        obtain ⟨x0, x1, y0, y1, -, -, sb⟩ := keepT ⟨x0, x1, y0, y1, x0, x1, sb⟩ hbw14
        clear u0 u1
        replace hBq := hBq.below hbw14 hBq.lt
        replace hBr := hBr.below hbw14 hBr.lt
        replace hBg := hBg.below hbw14 hBg.lt
        replace hBa := hBa.below hbw14 hBa.lt
        replace hq := hq.below hbw14 (Nat.le_refl _)
        replace hr := hr.below hbw14 (Nat.le_refl _)
        replace hg := hg.below hbw14 (Nat.le_refl _)
        replace ha := ha.below hbw14 (Nat.le_refl _)
        obtain ⟨dn, da, dl, dc, rfl⟩ := hd.parts
        obtain ⟨bn, ba, bl, bc, rfl⟩ := hb.parts
        obtain ⟨w14z, hzw14⟩ : ∃ w5, (w14.alloc (.cells #[.bool false, .slice none 0 0] 24)).alloc (.cells #[.bool false, .slice none 0 0] 24) = w5 := ⟨_, rfl⟩
        obtain ⟨⟨q0, q1, q2, q3, q4, q5⟩, w15, hww15, hBd, hBb, hbw15⟩ := boxes2 hzw14 (.bool dn) (.slice da dl dc) (.bool bn) (.slice ba bl bc)
        have HW := hide hww15
        clear hww15
        go_upto_region 16 with (fail)
        rw [HW.out]
        clear HW hzw14 q0 q1 q2 q3 q4 q5
        generalize hgd : w14.heap.size = g14 at hBd hBb ⊢
        clear hgd
        obtain ⟨x0, x1, y0, y1, -, -, sb⟩ := keepT ⟨x0, x1, y0, y1, x0, x1, sb⟩ hbw15
        replace hBq := hBq.below hbw15 hBq.lt
        replace hBr := hBr.below hbw15 hBr.lt
        replace hBg := hBg.below hbw15 hBg.lt
        replace hBa := hBa.below hbw15 hBa.lt
        replace hq := hq.below hbw15 (Nat.le_refl _)
        replace hr := hr.below hbw15 (Nat.le_refl _)
        replace hg := hg.below hbw15 (Nat.le_refl _)
        replace ha := ha.below hbw15 (Nat.le_refl _)
        replace hb := hb.below hbw15 (Nat.le_refl _)
        clear hd hBd hbw14 hbw15
        have sb15 := sb
        have x05 := x0
        have x15 := x1
        have y05 := y0
        have y15 := y1
        have hBq5 := hBq
        have hBr5 := hBr
        have hBg5 := hBg
        have hBa5 := hBa
        have hBb5 := hBb
        have hq5 := hq
        have hr5 := hr
        have hg5 := hg
        have ha5 := ha
        have hb5 := hb
        obtain ⟨w16, hw16⟩ : ∃ w16, w15.alloc (.cells #[.bool n2, .slice a2 l2 c2] 24) = w16 := ⟨_, rfl⟩
        have hBs0 : Blk w16 w15.heap.size 24 #[.bool n2, .slice a2 l2 c2] := by rw [← hw16]; exact Blk.new _ _ _
        have hb16 : Below w15.heap.size w15 w16 := by rw [← hw16]; exact (Below.refl _ _).alloc (Nat.le_refl _) _
        obtain ⟨x0, x1, y0, y1, -, -, sb⟩ := keepT ⟨x0, x1, y0, y1, x0, x1, sb⟩ hb16
        replace hBq := hBq.below hb16 hBq.lt
        replace hBr := hBr.below hb16 hBr.lt
        replace hBg := hBg.below hb16 hBg.lt
        replace hBa := hBa.below hb16 hBa.lt
        replace hBb := hBb.below hb16 hBb.lt
        replace hq := hq.below hb16 (Nat.le_refl _)
        replace hr := hr.below hb16 (Nat.le_refl _)
        replace hg := hg.below hb16 (Nat.le_refl _)
        replace ha := ha.below hb16 (Nat.le_refl _)
        replace hb := hb.below hb16 (Nat.le_refl _)
        have HW := hide hw16
        clear hw16
        go_upto_region 17 with (fail)
        rw [HW.out]
        clear HW
        obtain ⟨s0, s1, sf⟩ := hBs0.c2
        have sf0 := sf 0
        obtain ⟨w17, hw17⟩ : ∃ w17, w16.setCell ⟨w15.heap.size, 0, none⟩ (.bool false) = w17 := ⟨_, rfl⟩
        have hBs : Blk w17 w15.heap.size 24 #[.bool false, .slice a2 l2 c2] := by rw [← hw17]; exact hBs0.set_ 0 (.bool false)
        have hb17 : Below w15.heap.size w15 w17 := by rw [← hw17]; exact hb16.setCell (Nat.le_refl _) _
        have HW := hide hw17
        clear hw17
        go_upto_region 18 with (fail)
        rw [HW.out]
        clear HW
        obtain ⟨x0, x1, y0, y1, -, -, -⟩ := keepT ⟨x05, x15, y05, y15, x05, x15, sb15⟩ hb17
        replace hBq := hBq5.below hb17 hBq5.lt
        replace hBr := hBr5.below hb17 hBr5.lt
        replace hBg := hBg5.below hb17 hBg5.lt
        replace hBa := hBa5.below hb17 hBa5.lt
        replace hBb := hBb5.below hb17 hBb5.lt
        replace hq := hq5.below hb17 (Nat.le_refl _)
        replace hr := hr5.below hb17 (Nat.le_refl _)
        replace hg := hg5.below hb17 (Nat.le_refl _)
        replace ha := ha5.below hb17 (Nat.le_refl _)
        replace hb := hb5.below hb17 (Nat.le_refl _)
        have sbw : Below w.heap.size w w17 := sb15.trans (hb17.mono sb15.size)
        have hXw := hX.below sbw (Nat.le_refl _)
        have hYw := hY.below sbw (Nat.le_refl _)
        have hSw := hYw.size
        generalize hgs : w15.heap.size = g16 at hBs ⊢
        clear hgs
        obtain ⟨q0, q1, -⟩ := hBq.c2
        obtain ⟨r0, r1, -⟩ := hBr.c2
        obtain ⟨-, a1v, -⟩ := hBa.c2
        obtain ⟨-, b1v, -⟩ := hBb.c2
        obtain ⟨s0, s1, -⟩ := hBs.c2
        have hrn : rn = false := by rw [hr.sign.1]; exact decide_eq_false (by have := (rest_small (x := X) HY0.out).1; omega)
        have hal : al = 0 := by rw [ha.sign.2]; rfl
        have hbl : bl = 0 := by rw [hb.sign.2]; rfl
        subst hrn hal hbl
        have sM : Sm (X / Y * Y) := by have h1 := len_mul (X / Y) Y; have h2 := len_le (div_small X Y); unfold Sm; omega
        have sS : Sm (X / Y * Y + X % Y) := by rw [div_back]; exact sX
        have sZ2 : Sm (Y.natAbs : Int) := by have := len_le (x := (Y.natAbs : Int)) (y := Y) (by omega); unfold Sm; omega
        have HDB := hide (div_back (x := X) (y := Y))
        have HRS := hide (rest_small (x := X) HY0.out).2
        have hBd := (Below.refl w17.heap.size w17).drew
        clear hBq hBr hBa hBb hBs hBs0 sf sf0 hb16 hb17 sb sb15 hBg hg HL2
        refine wp_region_held_drew (S := fun w' => w'.cell? ⟨g9, 0, none⟩ = some (.bool qn) ∧ w'.cell? ⟨g9, 1, none⟩ = some (.slice qa ql qc) ∧ w'.cell? ⟨w.heap.size + 1, 0, none⟩ = some (.bool n2) ∧ w'.cell? ⟨w.heap.size + 1, 1, none⟩ = some (.slice a2 l2 c2) ∧ w'.cell? ⟨g9 + 1, 0, none⟩ = some (.bool false) ∧ w'.cell? ⟨g9 + 1, 1, none⟩ = some (.slice ra rl rc) ∧ w'.cell? ⟨w.heap.size, 0, none⟩ = some (.bool n1) ∧ w'.cell? ⟨w.heap.size, 1, none⟩ = some (.slice a1 l1 c1) ∧ w'.cell? ⟨g16, 0, none⟩ = some (.bool false) ∧ w'.cell? ⟨g16, 1, none⟩ = some (.slice a2 l2 c2) ∧ w'.cell? ⟨g12 + 1, 1, none⟩ = some (.slice aa 0 ac) ∧ w'.cell? ⟨g14 + 1, 1, none⟩ = some (.slice ba 0 bc) ∧ Below w17.heap.size w17 w') (by kernel_rfl) (⟨q0, q1, y0, y1, r0, r1, x0, x1, s0, s1, a1v, b1v, hBd⟩) (fun hS => ?_)
        refine wpAnyH_take (i := 0) (oi := { dst := some 110, op := Op.load 24 (Operand.tmp 9), type := 24, pos := "law.go:84", after := #[], guard := none }) (v := ?_) rfl (by kernel_rfl) (by kernel_rfl) (by kernel_rfl) (fun _ _ _ h => h) (Or.inl ⟨by rfl, ?_⟩) hS ?_
        rotate_left
        · (intro w' hSw; (try dsimp only at hSw); go_simp; try with_reducible rfl)
        try simp only [Act.put, List.setIfInBounds_toArray, List.set_cons_zero, List.set_cons_succ]
        refine wpAnyH_take (i := 1) (oi := { dst := some 111, op := Op.load 24 (Operand.tmp 4), type := 24, pos := "law.go:84", after := #[], guard := none }) (v := ?_) rfl (by kernel_rfl) (by kernel_rfl) (by kernel_rfl) (fun _ _ _ h => h) (Or.inl ⟨by rfl, ?_⟩) hS ?_
        rotate_left
        · (intro w' hSw; (try dsimp only at hSw); go_simp; try with_reducible rfl)
        try simp only [Act.put, List.setIfInBounds_toArray, List.set_cons_zero, List.set_cons_succ]
        refine wpAnyH_take (i := 3) (oi := { dst := some 113, op := Op.load 24 (Operand.tmp 10), type := 24, pos := "law.go:84", after := #[], guard := none }) (v := ?_) rfl (by kernel_rfl) (by kernel_rfl) (by kernel_rfl) (fun _ _ _ h => h) (Or.inl ⟨by rfl, ?_⟩) hS ?_
        rotate_left
        · (intro w' hSw; (try dsimp only at hSw); go_simp; try with_reducible rfl)
        try simp only [Act.put, List.setIfInBounds_toArray, List.set_cons_zero, List.set_cons_succ]
        refine wpAnyH_take (i := 5) (oi := { dst := some 115, op := Op.load 24 (Operand.tmp 3), type := 24, pos := "law.go:84", after := #[], guard := none }) (v := ?_) rfl (by kernel_rfl) (by kernel_rfl) (by kernel_rfl) (fun _ _ _ h => h) (Or.inl ⟨by rfl, ?_⟩) hS ?_
        rotate_left
        · (intro w' hSw; (try dsimp only at hSw); go_simp; try with_reducible rfl)
        try simp only [Act.put, List.setIfInBounds_toArray, List.set_cons_zero, List.set_cons_succ]
        refine wpAnyH_ready (rs := [2]) (by kernel_rfl) (by simp) ?_
        refine AllReadyH.cons (o := { dst := some 112, op := Op.call { callee := Callee.value (Operand.func 27), args := #[Operand.tmp 110, Operand.tmp 111], argTypes := #[24, 24] }, type := 24, pos := "law.go:84", after := #[{ on := 0, ground := Ground.data }, { on := 1, ground := Ground.data }], guard := none }) rfl (fun K hK => ?_) AllReadyH.nil
        go_simp
        (go_at_call 27; (with_reducible refine (Mul_any _ (hq.below hS.2.2.2.2.2.2.2.2.2.2.2.2 (Nat.le_refl _)) (hYw.below hS.2.2.2.2.2.2.2.2.2.2.2.2 (Nat.le_refl _)) sq sY).mono ?_); rintro e wn ⟨rM, rfl, hM, hb1⟩)
        go_wp2_with fail
        refine hK.out _ _ (⟨cellK hb1 hS.1, cellK hb1 hS.2.1, cellK hb1 hS.2.2.1, cellK hb1 hS.2.2.2.1, cellK hb1 hS.2.2.2.2.1, cellK hb1 hS.2.2.2.2.2.1, cellK hb1 hS.2.2.2.2.2.2.1, cellK hb1 hS.2.2.2.2.2.2.2.1, cellK hb1 hS.2.2.2.2.2.2.2.2.1, cellK hb1 hS.2.2.2.2.2.2.2.2.2.1, cellK hb1 hS.2.2.2.2.2.2.2.2.2.2.1, cellK hb1 hS.2.2.2.2.2.2.2.2.2.2.2.1, (hS.2.2.2.2.2.2.2.2.2.2.2.2).trans (hb1.mono (hS.2.2.2.2.2.2.2.2.2.2.2.2).size)⟩) (fun hS => ?_)
        clear hK K hb1
        try simp only [Act.put, List.setIfInBounds_toArray, List.set_cons_zero, List.set_cons_succ]
        refine wpAnyH_ready (rs := [4]) (by kernel_rfl) (by simp) ?_
        refine AllReadyH.cons (o := { dst := some 114, op := Op.call { callee := Callee.value (Operand.func 25), args := #[Operand.tmp 112, Operand.tmp 113], argTypes := #[24, 24] }, type := 24, pos := "law.go:84", after := #[{ on := 2, ground := Ground.data }, { on := 3, ground := Ground.data }, { on := 2, ground := Ground.chain }], guard := none }) rfl (fun K hK => ?_) AllReadyH.nil
        go_simp
        (go_at_call 25; (with_reducible refine (Add_any _ hM (hr.below hS.2.2.2.2.2.2.2.2.2.2.2.2 (Nat.le_refl _)) sM sr).mono ?_); rintro e wn ⟨rA, rfl, hA, hb1⟩)
        go_wp2_with fail
        refine hK.out _ _ (⟨cellK hb1 hS.1, cellK hb1 hS.2.1, cellK hb1 hS.2.2.1, cellK hb1 hS.2.2.2.1, cellK hb1 hS.2.2.2.2.1, cellK hb1 hS.2.2.2.2.2.1, cellK hb1 hS.2.2.2.2.2.2.1, cellK hb1 hS.2.2.2.2.2.2.2.1, cellK hb1 hS.2.2.2.2.2.2.2.2.1, cellK hb1 hS.2.2.2.2.2.2.2.2.2.1, cellK hb1 hS.2.2.2.2.2.2.2.2.2.2.1, cellK hb1 hS.2.2.2.2.2.2.2.2.2.2.2.1, (hS.2.2.2.2.2.2.2.2.2.2.2.2).trans (hb1.mono (hS.2.2.2.2.2.2.2.2.2.2.2.2).size)⟩) (fun hS => ?_)
        clear hK K hb1
        try simp only [Act.put, List.setIfInBounds_toArray, List.set_cons_zero, List.set_cons_succ]
        refine wpAnyH_ready (rs := [6]) (by kernel_rfl) (by simp) ?_
        refine AllReadyH.cons (o := { dst := some 116, op := Op.call { callee := Callee.value (Operand.func 14), args := #[Operand.tmp 114, Operand.tmp 115], argTypes := #[24, 24] }, type := 4, pos := "law.go:84", after := #[{ on := 4, ground := Ground.data }, { on := 5, ground := Ground.data }, { on := 4, ground := Ground.chain }], guard := none }) rfl (fun K hK => ?_) AllReadyH.nil
        go_simp
        (go_at_call 14; (with_reducible refine (Same_true hA (hXw.below hS.2.2.2.2.2.2.2.2.2.2.2.2 (Nat.le_refl _)) HDB.out sS).mono ?_); rintro e wn ⟨rfl, hb1⟩)
        go_wp2_with fail
        refine hK.out _ _ (⟨cellK hb1 hS.1, cellK hb1 hS.2.1, cellK hb1 hS.2.2.1, cellK hb1 hS.2.2.2.1, cellK hb1 hS.2.2.2.2.1, cellK hb1 hS.2.2.2.2.2.1, cellK hb1 hS.2.2.2.2.2.2.1, cellK hb1 hS.2.2.2.2.2.2.2.1, cellK hb1 hS.2.2.2.2.2.2.2.2.1, cellK hb1 hS.2.2.2.2.2.2.2.2.2.1, cellK hb1 hS.2.2.2.2.2.2.2.2.2.2.1, cellK hb1 hS.2.2.2.2.2.2.2.2.2.2.2.1, (hS.2.2.2.2.2.2.2.2.2.2.2.2).trans (hb1.mono (hS.2.2.2.2.2.2.2.2.2.2.2.2).size)⟩) (fun hS => ?_)
        clear hK K hb1
        try simp only [Act.put, List.setIfInBounds_toArray, List.set_cons_zero, List.set_cons_succ]
        refine wpAnyH_take (i := 7) (oi := { dst := some 117, op := Op.move (Operand.tmp 116), type := 4, pos := "law.go:84", after := #[{ on := 6, ground := Ground.data }, { on := 6, ground := Ground.chain }], guard := none }) (v := ?_) rfl (by kernel_rfl) (by kernel_rfl) (by kernel_rfl) (fun _ _ _ h => h) (Or.inl ⟨by rfl, ?_⟩) hS ?_
        rotate_left
        · (intro w' hSw; (try dsimp only at hSw); go_simp; try with_reducible rfl)
        try simp only [Act.put, List.setIfInBounds_toArray, List.set_cons_zero, List.set_cons_succ]
        refine wpAnyH_take (i := 8) (oi := { dst := some 118, op := Op.fieldAddr 24 (Operand.tmp 10) 0, type := 0, pos := "law.go:84", after := #[{ on := 7, ground := Ground.guard }], guard := some (7, true) }) (v := ?_) rfl (by kernel_rfl) (by kernel_rfl) (by kernel_rfl) (fun _ _ _ h => h) (Or.inl ⟨by rfl, ?_⟩) hS ?_
        rotate_left
        · (intro w' hSw; (try dsimp only at hSw); go_simp; try with_reducible rfl)
        try simp only [Act.put, List.setIfInBounds_toArray, List.set_cons_zero, List.set_cons_succ]
        refine wpAnyH_take (i := 9) (oi := { dst := some 119, op := Op.load 4 (Operand.tmp 118), type := 4, pos := "law.go:84", after := #[{ on := 8, ground := Ground.data }, { on := 7, ground := Ground.guard }], guard := some (7, true) }) (v := ?_) rfl (by kernel_rfl) (by kernel_rfl) (by kernel_rfl) (fun _ _ _ h => h) (Or.inl ⟨by rfl, ?_⟩) hS ?_
        rotate_left
        · (intro w' hSw; (try dsimp only at hSw); go_simp; try with_reducible rfl)
        try simp only [Act.put, List.setIfInBounds_toArray, List.set_cons_zero, List.set_cons_succ]
        refine wpAnyH_take (i := 10) (oi := { dst := some 120, op := Op.unOp UnOp.not 4 (Operand.tmp 119), type := 4, pos := "law.go:84", after := #[{ on := 9, ground := Ground.data }, { on := 7, ground := Ground.guard }], guard := some (7, true) }) (v := ?_) rfl (by kernel_rfl) (by kernel_rfl) (by kernel_rfl) (fun _ _ _ h => h) (Or.inl ⟨by rfl, ?_⟩) hS ?_
        rotate_left
        · (intro w' hSw; (try dsimp only at hSw); go_simp; try with_reducible rfl)
        try simp only [Act.put, List.setIfInBounds_toArray, List.set_cons_zero, List.set_cons_succ]
        refine wpAnyH_take (i := 11) (oi := { dst := some 121, op := Op.pick (Operand.tmp 117) (Operand.tmp 120) (Operand.const (Value.bool false)), type := 4, pos := "law.go:84", after := #[{ on := 7, ground := Ground.data }, { on := 10, ground := Ground.data }], guard := none }) (v := ?_) rfl (by kernel_rfl) (by kernel_rfl) (by kernel_rfl) (fun _ _ _ h => h) (Or.inl ⟨by rfl, ?_⟩) hS ?_
        rotate_left
        · (intro w' hSw; (try dsimp only at hSw); go_simp; try with_reducible rfl)
        try simp only [Act.put, List.setIfInBounds_toArray, List.set_cons_zero, List.set_cons_succ]
        refine wpAnyH_take (i := 12) (oi := { dst := some 122, op := Op.move (Operand.tmp 121), type := 4, pos := "law.go:84", after := #[{ on := 11, ground := Ground.data }, { on := 7, ground := Ground.chain }], guard := none }) (v := ?_) rfl (by kernel_rfl) (by kernel_rfl) (by kernel_rfl) (fun _ _ _ h => h) (Or.inl ⟨by rfl, ?_⟩) hS ?_
        rotate_left
        · (intro w' hSw; (try dsimp only at hSw); go_simp; try with_reducible rfl)
        try simp only [Act.put, List.setIfInBounds_toArray, List.set_cons_zero, List.set_cons_succ]
        refine wpAnyH_take (i := 13) (oi := { dst := some 123, op := Op.load 24 (Operand.tmp 10), type := 24, pos := "law.go:84", after := #[{ on := 12, ground := Ground.guard }], guard := some (12, true) }) (v := ?_) rfl (by kernel_rfl) (by kernel_rfl) (by kernel_rfl) (fun _ _ _ h => h) (Or.inl ⟨by rfl, ?_⟩) hS ?_
        rotate_left
        · (intro w' hSw; (try dsimp only at hSw); go_simp; try with_reducible rfl)
        try simp only [Act.put, List.setIfInBounds_toArray, List.set_cons_zero, List.set_cons_succ]
        refine wpAnyH_take (i := 14) (oi := { dst := some 124, op := Op.load 24 (Operand.tmp 16), type := 24, pos := "law.go:84", after := #[{ on := 12, ground := Ground.guard }], guard := some (12, true) }) (v := ?_) rfl (by kernel_rfl) (by kernel_rfl) (by kernel_rfl) (fun _ _ _ h => h) (Or.inl ⟨by rfl, ?_⟩) hS ?_
        rotate_left
        · (intro w' hSw; (try dsimp only at hSw); go_simp; try with_reducible rfl)
        try simp only [Act.put, List.setIfInBounds_toArray, List.set_cons_zero, List.set_cons_succ]
        refine wpAnyH_ready (rs := [15]) (by kernel_rfl) (by simp) ?_
        refine AllReadyH.cons (o := { dst := some 125, op := Op.call { callee := Callee.value (Operand.func 33), args := #[Operand.tmp 123, Operand.tmp 124], argTypes := #[24, 24] }, type := 3, pos := "law.go:84", after := #[{ on := 13, ground := Ground.data }, { on := 14, ground := Ground.data }, { on := 12, ground := Ground.chain }, { on := 12, ground := Ground.guard }], guard := some (12, true) }) rfl (fun K hK => ?_) AllReadyH.nil
        go_simp
        (go_at_call 33; (with_reducible refine (Cmp_at (hr.below hS.2.2.2.2.2.2.2.2.2.2.2.2 (Nat.le_refl _)) (hSw.below hS.2.2.2.2.2.2.2.2.2.2.2.2 (Nat.le_refl _)) sr sZ2 (Below.refl _ _) HRS.out).mono ?_); rintro e wn ⟨rfl, hb1⟩)
        go_wp2_with fail
        refine hK.out _ _ (⟨cellK hb1 hS.1, cellK hb1 hS.2.1, cellK hb1 hS.2.2.1, cellK hb1 hS.2.2.2.1, cellK hb1 hS.2.2.2.2.1, cellK hb1 hS.2.2.2.2.2.1, cellK hb1 hS.2.2.2.2.2.2.1, cellK hb1 hS.2.2.2.2.2.2.2.1, cellK hb1 hS.2.2.2.2.2.2.2.2.1, cellK hb1 hS.2.2.2.2.2.2.2.2.2.1, cellK hb1 hS.2.2.2.2.2.2.2.2.2.2.1, cellK hb1 hS.2.2.2.2.2.2.2.2.2.2.2.1, (hS.2.2.2.2.2.2.2.2.2.2.2.2).trans (hb1.mono (hS.2.2.2.2.2.2.2.2.2.2.2.2).size)⟩) (fun hS => ?_)
        clear hK K hb1
        try simp only [Act.put, List.setIfInBounds_toArray, List.set_cons_zero, List.set_cons_succ]
        refine wpAnyH_take (i := 16) (oi := { dst := some 126, op := Op.binOp BinOp.lss 3 (Operand.tmp 125) (Operand.const (Value.int IntKind.i64 0)) 3, type := 4, pos := "law.go:84", after := #[{ on := 15, ground := Ground.data }, { on := 12, ground := Ground.guard }], guard := some (12, true) }) (v := ?_) rfl (by kernel_rfl) (by kernel_rfl) (by kernel_rfl) (fun _ _ _ h => h) (Or.inl ⟨by rfl, ?_⟩) hS ?_
        rotate_left
        · (intro w' hSw; (try dsimp only at hSw); go_simp; try with_reducible rfl)
        try simp only [Act.put, List.setIfInBounds_toArray, List.set_cons_zero, List.set_cons_succ]
        refine wpAnyH_take (i := 17) (oi := { dst := some 127, op := Op.pick (Operand.tmp 122) (Operand.tmp 126) (Operand.const (Value.bool false)), type := 4, pos := "law.go:84", after := #[{ on := 12, ground := Ground.data }, { on := 16, ground := Ground.data }], guard := none }) (v := ?_) rfl (by kernel_rfl) (by kernel_rfl) (by kernel_rfl) (fun _ _ _ h => h) (Or.inl ⟨by rfl, ?_⟩) hS ?_
        rotate_left
        · (intro w' hSw; (try dsimp only at hSw); go_simp; try with_reducible rfl)
        try simp only [Act.put, List.setIfInBounds_toArray, List.set_cons_zero, List.set_cons_succ]
        refine wpAnyH_take (i := 18) (oi := { dst := some 128, op := Op.move (Operand.tmp 127), type := 4, pos := "law.go:84", after := #[{ on := 17, ground := Ground.data }, { on := 15, ground := Ground.chain }], guard := none }) (v := ?_) rfl (by kernel_rfl) (by kernel_rfl) (by kernel_rfl) (fun _ _ _ h => h) (Or.inl ⟨by rfl, ?_⟩) hS ?_
        rotate_left
        · (intro w' hSw; (try dsimp only at hSw); go_simp; try with_reducible rfl)
        try simp only [Act.put, List.setIfInBounds_toArray, List.set_cons_zero, List.set_cons_succ]
        refine wpAnyH_take (i := 19) (oi := { dst := some 129, op := Op.fieldAddr 24 (Operand.tmp 13) 1, type := 0, pos := "law.go:84", after := #[{ on := 18, ground := Ground.guard }], guard := some (18, true) }) (v := ?_) rfl (by kernel_rfl) (by kernel_rfl) (by kernel_rfl) (fun _ _ _ h => h) (Or.inl ⟨by rfl, ?_⟩) hS ?_
        rotate_left
        · (intro w' hSw; (try dsimp only at hSw); go_simp; try with_reducible rfl)
        try simp only [Act.put, List.setIfInBounds_toArray, List.set_cons_zero, List.set_cons_succ]
        refine wpAnyH_take (i := 20) (oi := { dst := some 130, op := Op.load 22 (Operand.tmp 129), type := 22, pos := "law.go:84", after := #[{ on := 19, ground := Ground.data }, { on := 18, ground := Ground.guard }], guard := some (18, true) }) (v := ?_) rfl (by kernel_rfl) (by kernel_rfl) (by kernel_rfl) (fun _ _ _ h => h) (Or.inl ⟨by rfl, ?_⟩) hS ?_
        rotate_left
        · (intro w' hSw; (try dsimp only at hSw); go_simp; try with_reducible rfl)
        try simp only [Act.put, List.setIfInBounds_toArray, List.set_cons_zero, List.set_cons_succ]
        refine wpAnyH_take (i := 21) (oi := { dst := some 131, op := Op.call { callee := Callee.builtin Builtin.len, args := #[Operand.tmp 130], argTypes := #[22] }, type := 3, pos := "law.go:84", after := #[{ on := 20, ground := Ground.data }, { on := 18, ground := Ground.guard }], guard := some (18, true) }) (v := ?_) rfl (by kernel_rfl) (by kernel_rfl) (by kernel_rfl) (fun _ _ _ h => h) (Or.inl ⟨by rfl, ?_⟩) hS ?_
        rotate_left
        · (intro w' hSw; (try dsimp only at hSw); go_simp; try with_reducible rfl)
        try simp only [Act.put, List.setIfInBounds_toArray, List.set_cons_zero, List.set_cons_succ]
        refine wpAnyH_take (i := 22) (oi := { dst := some 132, op := Op.binOp BinOp.eql 3 (Operand.tmp 131) (Operand.const (Value.int IntKind.i64 0)) 3, type := 4, pos := "law.go:84", after := #[{ on := 21, ground := Ground.data }, { on := 18, ground := Ground.guard }], guard := some (18, true) }) (v := ?_) rfl (by kernel_rfl) (by kernel_rfl) (by kernel_rfl) (fun _ _ _ h => h) (Or.inl ⟨by rfl, ?_⟩) hS ?_
        rotate_left
        · (intro w' hSw; (try dsimp only at hSw); go_simp; try with_reducible rfl)
        try simp only [Act.put, List.setIfInBounds_toArray, List.set_cons_zero, List.set_cons_succ]
        refine wpAnyH_take (i := 23) (oi := { dst := some 133, op := Op.pick (Operand.tmp 128) (Operand.tmp 132) (Operand.const (Value.bool false)), type := 4, pos := "law.go:84", after := #[{ on := 18, ground := Ground.data }, { on := 22, ground := Ground.data }], guard := none }) (v := ?_) rfl (by kernel_rfl) (by kernel_rfl) (by kernel_rfl) (fun _ _ _ h => h) (Or.inl ⟨by rfl, ?_⟩) hS ?_
        rotate_left
        · (intro w' hSw; (try dsimp only at hSw); go_simp; try with_reducible rfl)
        try simp only [Act.put, List.setIfInBounds_toArray, List.set_cons_zero, List.set_cons_succ]
        refine wpAnyH_take (i := 24) (oi := { dst := some 134, op := Op.move (Operand.tmp 133), type := 4, pos := "law.go:84", after := #[{ on := 23, ground := Ground.data }, { on := 18, ground := Ground.chain }], guard := none }) (v := ?_) rfl (by kernel_rfl) (by kernel_rfl) (by kernel_rfl) (fun _ _ _ h => h) (Or.inl ⟨by rfl, ?_⟩) hS ?_
        rotate_left
        · (intro w' hSw; (try dsimp only at hSw); go_simp; try with_reducible rfl)
        try simp only [Act.put, List.setIfInBounds_toArray, List.set_cons_zero, List.set_cons_succ]
        refine wpAnyH_take (i := 25) (oi := { dst := some 135, op := Op.fieldAddr 24 (Operand.tmp 15) 1, type := 0, pos := "law.go:84", after := #[{ on := 24, ground := Ground.guard }], guard := some (24, true) }) (v := ?_) rfl (by kernel_rfl) (by kernel_rfl) (by kernel_rfl) (fun _ _ _ h => h) (Or.inl ⟨by rfl, ?_⟩) hS ?_
        rotate_left
        · (intro w' hSw; (try dsimp only at hSw); go_simp; try with_reducible rfl)
        try simp only [Act.put, List.setIfInBounds_toArray, List.set_cons_zero, List.set_cons_succ]
        refine wpAnyH_take (i := 26) (oi := { dst := some 136, op := Op.load 22 (Operand.tmp 135), type := 22, pos := "law.go:84", after := #[{ on := 25, ground := Ground.data }, { on := 24, ground := Ground.guard }], guard := some (24, true) }) (v := ?_) rfl (by kernel_rfl) (by kernel_rfl) (by kernel_rfl) (fun _ _ _ h => h) (Or.inl ⟨by rfl, ?_⟩) hS ?_
        rotate_left
        · (intro w' hSw; (try dsimp only at hSw); go_simp; try with_reducible rfl)
        try simp only [Act.put, List.setIfInBounds_toArray, List.set_cons_zero, List.set_cons_succ]
        refine wpAnyH_take (i := 27) (oi := { dst := some 137, op := Op.call { callee := Callee.builtin Builtin.len, args := #[Operand.tmp 136], argTypes := #[22] }, type := 3, pos := "law.go:84", after := #[{ on := 26, ground := Ground.data }, { on := 24, ground := Ground.guard }], guard := some (24, true) }) (v := ?_) rfl (by kernel_rfl) (by kernel_rfl) (by kernel_rfl) (fun _ _ _ h => h) (Or.inl ⟨by rfl, ?_⟩) hS ?_
        rotate_left
        · (intro w' hSw; (try dsimp only at hSw); go_simp; try with_reducible rfl)
        try simp only [Act.put, List.setIfInBounds_toArray, List.set_cons_zero, List.set_cons_succ]
        refine wpAnyH_take (i := 28) (oi := { dst := some 138, op := Op.binOp BinOp.eql 3 (Operand.tmp 137) (Operand.const (Value.int IntKind.i64 0)) 3, type := 4, pos := "law.go:84", after := #[{ on := 27, ground := Ground.data }, { on := 24, ground := Ground.guard }], guard := some (24, true) }) (v := ?_) rfl (by kernel_rfl) (by kernel_rfl) (by kernel_rfl) (fun _ _ _ h => h) (Or.inl ⟨by rfl, ?_⟩) hS ?_
        rotate_left
        · (intro w' hSw; (try dsimp only at hSw); go_simp; try with_reducible rfl)
        try simp only [Act.put, List.setIfInBounds_toArray, List.set_cons_zero, List.set_cons_succ]
        refine wpAnyH_take (i := 29) (oi := { dst := some 139, op := Op.pick (Operand.tmp 134) (Operand.tmp 138) (Operand.const (Value.bool false)), type := 4, pos := "law.go:84", after := #[{ on := 24, ground := Ground.data }, { on := 28, ground := Ground.data }], guard := none }) (v := ?_) rfl (by kernel_rfl) (by kernel_rfl) (by kernel_rfl) (fun _ _ _ h => h) (Or.inl ⟨by rfl, ?_⟩) hS ?_
        rotate_left
        · (intro w' hSw; (try dsimp only at hSw); go_simp; try with_reducible rfl)
        try simp only [Act.put, List.setIfInBounds_toArray, List.set_cons_zero, List.set_cons_succ]
        refine wpAnyH_take (i := 30) (oi := { dst := some 6, op := Op.assign (Operand.tmp 139), type := 4, pos := "law.go:84", after := #[{ on := 29, ground := Ground.data }, { on := 24, ground := Ground.chain }, { on := 0, ground := Ground.phase }, { on := 1, ground := Ground.phase }, { on := 2, ground := Ground.phase }, { on := 3, ground := Ground.phase }, { on := 4, ground := Ground.phase }, { on := 5, ground := Ground.phase }, { on := 6, ground := Ground.phase }, { on := 7, ground := Ground.phase }, { on := 8, ground := Ground.phase }, { on := 9, ground := Ground.phase }, { on := 10, ground := Ground.phase }, { on := 11, ground := Ground.phase }, { on := 12, ground := Ground.phase }, { on := 13, ground := Ground.phase }, { on := 14, ground := Ground.phase }, { on := 15, ground := Ground.phase }, { on := 16, ground := Ground.phase }, { on := 17, ground := Ground.phase }, { on := 18, ground := Ground.phase }, { on := 19, ground := Ground.phase }, { on := 20, ground := Ground.phase }, { on := 21, ground := Ground.phase }, { on := 22, ground := Ground.phase }, { on := 23, ground := Ground.phase }, { on := 24, ground := Ground.phase }, { on := 25, ground := Ground.phase }, { on := 26, ground := Ground.phase }, { on := 27, ground := Ground.phase }, { on := 28, ground := Ground.phase }, { on := 29, ground := Ground.phase }], guard := none }) (v := ?_) rfl (by kernel_rfl) (by kernel_rfl) (by kernel_rfl) (fun _ _ _ h => h) (Or.inl ⟨by rfl, ?_⟩) hS ?_
        rotate_left
        · (intro w' hSw; (try dsimp only at hSw); go_simp; try with_reducible rfl)
        try simp only [Act.put, List.setIfInBounds_toArray, List.set_cons_zero, List.set_cons_succ]
        refine wpAnyH_done (by kernel_rfl) ?_ _
        have hfin := sbw.trans ((hS.2.2.2.2.2.2.2.2.2.2.2.2).mono sbw.size)
        clear hS q0 q1 y0 y1 r0 r1 x0 x1 s0 s1 a1v b1v
        go_wp2_with fail
        go_ret
        exact ⟨rfl, hfin⟩
end Go.Proofs.YthpibilefdmemaaDoor
