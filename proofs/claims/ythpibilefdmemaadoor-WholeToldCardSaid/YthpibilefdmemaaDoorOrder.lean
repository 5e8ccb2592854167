/- The walk of the law WholeOrder. -/
import Derived.Test.YthpibilefdmemaaDoorThree
import Derived.Deep.RegionHeld3
namespace Go.Proofs.YthpibilefdmemaaDoor
open Go.RowKit

theorem keepT {w c w1 : World} {g1 g2 g3 : Nat} {p1 q1 p2 q2 p3 q3 : Value} (h : c.cell? ⟨g1, 0, none⟩ = some p1 ∧ c.cell? ⟨g1, 1, none⟩ = some q1 ∧ c.cell? ⟨g2, 0, none⟩ = some p2 ∧ c.cell? ⟨g2, 1, none⟩ = some q2 ∧ c.cell? ⟨g3, 0, none⟩ = some p3 ∧ c.cell? ⟨g3, 1, none⟩ = some q3 ∧ Below w.heap.size w c) (hb : Below c.heap.size c w1) :
    w1.cell? ⟨g1, 0, none⟩ = some p1 ∧ w1.cell? ⟨g1, 1, none⟩ = some q1 ∧ w1.cell? ⟨g2, 0, none⟩ = some p2 ∧ w1.cell? ⟨g2, 1, none⟩ = some q2 ∧ w1.cell? ⟨g3, 0, none⟩ = some p3 ∧ w1.cell? ⟨g3, 1, none⟩ = some q3 ∧ Below w.heap.size w w1 := by
  obtain ⟨h1, h2, h3, h4, h5, h6, hB⟩ := h
  have k : ∀ {a v}, c.cell? a = some v → w1.cell? a = some v := fun h => (hb.cell (World.block_lt_of_cell? c _ h)).trans h
  exact ⟨k h1, k h2, k h3, k h4, k h5, k h6, hB.trans (hb.mono hB.size)⟩
theorem ordZ_cases (x y : Int) : ordZ x y = -1 ∨ ordZ x y = 0 ∨ ordZ x y = 1 := by
  unfold ordZ
  split
  · simp
  · split <;> simp
theorem ordZ_add (x y z : Int) : ordZ (x + z) (y + z) = ordZ x y := by
  unfold ordZ
  simp only [Int.add_lt_add_iff_right]
theorem ordZ_swap (x y : Int) : ordZ y x = -ordZ x y := by
  unfold ordZ
  split <;> split <;> (try split) <;> omega
theorem ordZ_mul (x y z : Int) : ordZ (x * z) (y * z) = ordZ x y * ordZ z 0 := by
  unfold ordZ
  rcases Int.lt_trichotomy z 0 with h | h | h
  · rw [if_pos h]
    rcases Int.lt_trichotomy x y with k | k | k
    · have := Int.mul_lt_mul_of_neg_right k h
      rw [if_pos k, if_neg (by omega), if_pos this]; rfl
    · subst k; simp
    · have := Int.mul_lt_mul_of_neg_right k h
      rw [if_pos this, if_neg (show ¬ x < y by omega), if_pos k]; rfl
  · subst h; simp
  · rw [if_neg (show ¬ z < 0 by omega), if_pos h]
    rcases Int.lt_trichotomy x y with k | k | k
    · have := Int.mul_lt_mul_of_pos_right k h
      rw [if_pos k, if_pos this]; rfl
    · subst k; simp
    · have := Int.mul_lt_mul_of_pos_right k h
      rw [if_neg (show ¬ x < y by omega), if_pos k, if_neg (by omega), if_pos this]; rfl

set_option maxRecDepth 100000 in
set_option maxHeartbeats 3200000 in
theorem order_walk (x y z : Raw) (m : Int) (w : World) (hx : RawOk w x) (hy : RawOk w y) (hz : RawOk w z) (ht : Tab w) (hm1 : -9223372036854775808 ≤ m) (hm2 : m ≤ 9223372036854775807) :
    Calls Tryd.prog 5 #[x.val, y.val, z.val, .int .i64 m] w fun e w' => e = .returned (.bool true) ∧ Below w.heap.size w w' := by
  obtain ⟨W, hW⟩ : ∃ W, ((w.alloc (.cells #[.bool x.neg, .slice x.at_ x.ds.length x.cap] 24)).alloc (.cells #[.bool y.neg, .slice y.at_ y.ds.length y.cap] 24)).alloc (.cells #[.bool z.neg, .slice z.at_ z.ds.length z.cap] 24) = W := ⟨_, rfl⟩
  have s0 : Three w w.heap.size x y z W := by
    rw [← hW]
    exact ⟨((Blk.new w _ _).alloc _).alloc _, (Blk.new_at _ _ _ (by simp)).alloc _, Blk.new_at _ _ _ (by simp), (((Below.refl _ _).alloc (Nat.le_refl _) _).alloc (by simp) _).alloc (by simp; omega) _⟩
  unfold Raw.val
  go_enter Tryd.func5, Tryd.ntmps5
  go_wp2_with fail
  refine (speaks_any W (ht.atBelow s0.2.2.2 (Nat.le_refl _))).mono ?_
  rintro e w1 ⟨rfl, hb1⟩
  have s1 := s0.grow hb1
  clear s0 hb1
  obtain ⟨x0, x1, -⟩ := s1.1.c2
  obtain ⟨y0, y1, -⟩ := s1.2.1.c2
  obtain ⟨z0, z1, -⟩ := s1.2.2.1.c2
  go_wp2_with fail
  refine (odd3 x y z w1 (hx.below s1.2.2.2 (Nat.le_refl _)) (hy.below s1.2.2.2 (Nat.le_refl _)) (hz.below s1.2.2.2 (Nat.le_refl _))).mono ?_
  rintro e w2 ⟨o, rfl, hb2, hodd⟩
  have s2 := s1.grow hb2
  cases o with
  | true =>
    clear x0 x1 y0 y1 z0 z1
    go_wp2_with fail
    go_ret
    exact ⟨rfl, s2.2.2.2⟩
  | false =>
    obtain ⟨ox, oy, oz⟩ := hodd rfl
    obtain ⟨X, hX, lX⟩ := hx.int ox
    obtain ⟨Y, hY, lY⟩ := hy.int oy
    obtain ⟨Z, hZ, lZ⟩ := hz.int oz
    clear x0 x1 y0 y1 z0 z1 ox oy oz hodd hx hy hz hb2 s1
    obtain ⟨n1, a1, c1, d1⟩ := x
    obtain ⟨n2, a2, c2, d2⟩ := y
    obtain ⟨n3, a3, c3, d3⟩ := z
    unfold Raw.val at hX hY hZ
    unfold Three at s2
    simp only at hX hY hZ s2 ⊢
    generalize d1.length = l1 at *
    generalize d2.length = l2 at *
    generalize d3.length = l3 at *
    obtain ⟨sx, sy, sz, sb⟩ := s2
    obtain ⟨x0, x1, -⟩ := sx.c2
    obtain ⟨y0, y1, -⟩ := sy.c2
    obtain ⟨z0, z1, -⟩ := sz.c2
    clear sx sy sz hW
    go_wp2_with fail
    have HC1 := hide (ordZ_add X Y Z)
    have HC2 := hide (ordZ_swap X Y)
    have HC3 := hide (ordZ_mul X Y Z)
    refine (Cmp_at hX hY (sm10 lX) (sm10 lY) sb rfl).mono ?_
    rintro e w3 ⟨rfl, hb3⟩
    obtain ⟨x0, x1, y0, y1, z0, z1, sb⟩ := keepT ⟨x0, x1, y0, y1, z0, z1, sb⟩ hb3
    clear hb3
    have cC := ordZ_cases X Y
    have cS := ordZ_cases Z 0
    generalize hD : ordZ Y X = D at *
    have HD := hide hD
    clear hD
    generalize hS : ordZ Z 0 = S at *
    have HS := hide hS
    clear hS
    generalize ordZ X Y = C at *
    generalize hE : C * S = E at *
    have hw1 : IntKind.i64.wrap (-D) = C := by
      have := HC2.out
      subst this
      rcases cC with rfl | rfl | rfl <;> rfl
    have hw2 : IntKind.i64.wrap (C * S) = E := by
      subst hE
      rcases cC with rfl | rfl | rfl <;> rcases cS with rfl | rfl | rfl <;> rfl
    have HE := hide hE
    clear cC cS hE HC2
    have sX := sm10 lX
    have sY := sm10 lY
    have sZ := sm10 lZ
    have s0 : Sm 0 := sm10 (by decide)
    have sA : Sm (X + Z) := by have := sm_add (x := X) (y := Z) (by omega) (by omega); unfold Sm; omega
    have sB : Sm (Y + Z) := by have := sm_add (x := Y) (y := Z) (by omega) (by omega); unfold Sm; omega
    have sM : Sm (X * Z) := by have := sm_mul (x := X) (y := Z) (by omega) (by omega); unfold Sm; omega
    have sN : Sm (Y * Z) := by have := sm_mul (x := Y) (y := Z) (by omega) (by omega); unfold Sm; omega
    have hO := IntV.zero w
    have sb1 := sb.drew
    go_upto_region 6 with (fail)
    go_region_held3 (fun w' => w'.cell? ⟨w.heap.size, 0, none⟩ = some (.bool n1) ∧ w'.cell? ⟨w.heap.size, 1, none⟩ = some (.slice a1 l1 c1) ∧ w'.cell? ⟨w.heap.size + 1, 0, none⟩ = some (.bool n2) ∧ w'.cell? ⟨w.heap.size + 1, 1, none⟩ = some (.slice a2 l2 c2) ∧ w'.cell? ⟨w.heap.size + 2, 0, none⟩ = some (.bool n3) ∧ w'.cell? ⟨w.heap.size + 2, 1, none⟩ = some (.slice a3 l3 c3) ∧ Below w.heap.size w w')
      (first | with_reducible exact keepT (by assumption) hb1 | go_keep)
      (first
        | (go_at_call_of 25 (Value.agg #[.bool n1, .slice a1 l1 c1]); (with_reducible refine (Add_at hX hZ sX sZ (by go_split_ands; assumption)).mono ?_); rintro e wA ⟨rA, rfl, hA, hb1⟩)
        | (go_at_call_of 25 (Value.agg #[.bool n2, .slice a2 l2 c2]); (with_reducible refine (Add_at hY hZ sY sZ (by go_split_ands; assumption)).mono ?_); rintro e wB ⟨rB, rfl, hB, hb1⟩; have hA2 := hA.below hb1 (Nat.le_refl _))
        | (go_at_call_of 33 rA; (with_reducible refine (Cmp_at hA2 hB sA sB (Below.refl _ _) HC1.out).mono ?_); rintro e wC ⟨rfl, hb1⟩)
        | (go_at_call_of 33 (Value.agg #[.bool n2, .slice a2 l2 c2]); (with_reducible refine (Cmp_at hY hX sY sX (by go_split_ands; assumption) HD.out).mono ?_); rintro e wC ⟨rfl, hb1⟩)
        | (go_at_call_of 27 (Value.agg #[.bool n1, .slice a1 l1 c1]); (with_reducible refine (Mul_at hX hZ sX sZ (by go_split_ands; assumption)).mono ?_); rintro e wA ⟨rM, rfl, hM, hb1⟩)
        | (go_at_call_of 27 (Value.agg #[.bool n2, .slice a2 l2 c2]); (with_reducible refine (Mul_at hY hZ sY sZ (by go_split_ands; assumption)).mono ?_); rintro e wB ⟨rN, rfl, hN, hb1⟩; have hM2 := hM.below hb1 (Nat.le_refl _))
        | (go_at_call_of 33 rM; (with_reducible refine (Cmp_at hM2 hN sM sN (Below.refl _ _) HC3.out).mono ?_); rintro e wC ⟨rfl, hb1⟩)
        | (go_at_call_of 33 (Value.agg #[.bool n3, .slice a3 l3 c3]); (with_reducible refine (Cmp_at hZ hO sZ s0 (by go_split_ands; assumption) HS.out).mono ?_); rintro e wC ⟨rfl, hb1⟩))
    rename_i hS
    have hBw : Below w.heap.size w wC := hS.2.2.2.2.2.2
    clear hS x0 x1 y0 y1 z0 z1 hA hB hA2 hM hN hM2 hb1 sb sb1
    go_wp2_with fail
    refine (Of_any m wC hm1 hm2).mono ?_
    rintro e w5 ⟨r5, rfl, h5, hb5⟩
    have sm5 : Sm m := sm_small (by rw [BB_eq]; omega)
    go_wp2_with fail
    refine (Small_any w5 h5 sm5).mono ?_
    rintro e w6 ⟨rfl, hb6⟩
    have hBe : Below w.heap.size w w6 := hBw.trans ((hb5.trans (hb6.mono hb5.size)).mono hBw.size)
    by_cases hsm : m.natAbs ≤ 4611686018427387904
    · rw [if_pos hsm, decide_eq_true hsm]
      have em : (m == m) = true := by simp
      clear hsm
      go_wp2_with fail
      go_ret
      exact ⟨rfl, hBe⟩
    · rw [if_neg hsm, decide_eq_false hsm]
      clear hsm
      go_wp2_with fail
      go_ret
      exact ⟨rfl, hBe⟩
end Go.Proofs.YthpibilefdmemaaDoor
