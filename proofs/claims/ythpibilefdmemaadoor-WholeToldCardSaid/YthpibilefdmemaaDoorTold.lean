/- The walk of the law WholeTold. -/
import Derived.Test.YthpibilefdmemaaDoorRules
import Derived.Test.YthpibilefdmemaaDoorRGcd
import Derived.Test.YthpibilefdmemaaDoorRText
namespace Go.Proofs.YthpibilefdmemaaDoor
open Go.RowKit

section
variable {w c w1 : World} {v : Value} {z : Int}
theorem NumV.drewd (h : NumV w v z) : NumV w.drew v z := h
theorem NumV.allocd (h : NumV w v z) (o : Obj) : NumV (w.alloc o) v z := h.below ((Below.refl _ _).alloc (Nat.le_refl _) _) (Nat.le_refl _)
theorem NumV.later (hb : Below c.heap.size c w1) (h : NumV c v z) : NumV w1 v z := h.below hb (Nat.le_refl _)
end
theorem keepD {w c w1 : World} {g1 g2 : Nat} {p1 q1 p2 q2 : Value} (h : c.cell? ⟨g1, 0, none⟩ = some p1 ∧ c.cell? ⟨g1, 1, none⟩ = some q1 ∧ c.cell? ⟨g2, 0, none⟩ = some p2 ∧ c.cell? ⟨g2, 1, none⟩ = some q2 ∧ Below w.heap.size w c) (hb : Below c.heap.size c w1) :
    w1.cell? ⟨g1, 0, none⟩ = some p1 ∧ w1.cell? ⟨g1, 1, none⟩ = some q1 ∧ w1.cell? ⟨g2, 0, none⟩ = some p2 ∧ w1.cell? ⟨g2, 1, none⟩ = some q2 ∧ Below w.heap.size w w1 := by
  obtain ⟨h1, h2, h3, h4, hB⟩ := h
  exact ⟨cellK hb h1, cellK hb h2, cellK hb h3, cellK hb h4, hB.trans (hb.mono hB.size)⟩
/-- How many decimal digits a number has that a slice of few digits holds. -/
theorem dm_len {z : Int} (h : len z ≤ 1000000000) : Dm z := by
  have h1 : z.natAbs < BB ^ len z := by
    have h := val_lt (ds := dg BB z.natAbs) (b := BB) (dg_canon BB2 z.natAbs).1
    rwa [dg_val BB2] at h
  rw [BB_pow] at h1
  have h2 := dg_len T2 h1
  unfold Dm dlen
  omega
theorem len_rest (X Y : Int) : len (if Y = 0 then (0 : Int) else X % Y) ≤ len Y := by
  refine len_le ?_
  by_cases h : Y = 0
  · simp [h]
  · rw [if_neg h]
    have h1 := Int.emod_nonneg X h
    have h2 := Int.emod_lt X h
    omega
theorem len_quot (X Y : Int) : len (if Y = 0 then (0 : Int) else X / Y) ≤ len X := by
  refine len_le ?_
  by_cases h : Y = 0
  · simp [h]
  · rw [if_neg h]
    exact div_small X Y
theorem RCmp_at {w c : World} {x y : Int} {u v : Value} (hx : NumV w u x) (hy : NumV w v y) (hn : Dm x) (hm : Dm y) (hB : Below w.heap.size w c) {C : Int} (hC : ordZ x y = C) : Calls Tryd.prog 34 #[u, v] c fun e w' => e = .returned (.int .i64 C) ∧ Below c.heap.size c w' := by
  subst hC
  exact RCmp_any c (hx.below hB (Nat.le_refl _)) (hy.below hB (Nat.le_refl _)) hn hm

set_option maxRecDepth 100000 in
set_option maxHeartbeats 6400000 in
theorem told_walk (x y : Raw) (w : World) (hx : RawOk w x) (hy : RawOk w y) (ht : Tab w) :
    Calls Tryd.prog 4 #[x.val, y.val] w fun e w' => e = .returned (.bool true) ∧ Below w.heap.size w w' := by
  obtain ⟨W, hW⟩ : ∃ W, (w.alloc (.cells #[.bool x.neg, .slice x.at_ x.ds.length x.cap] 24)).alloc (.cells #[.bool y.neg, .slice y.at_ y.ds.length y.cap] 24) = W := ⟨_, rfl⟩
  have bX : Blk W w.heap.size 24 #[.bool x.neg, .slice x.at_ x.ds.length x.cap] := by rw [← hW]; exact (Blk.new w _ _).alloc _
  have bY : Blk W (w.heap.size + 1) 24 #[.bool y.neg, .slice y.at_ y.ds.length y.cap] := by rw [← hW]; exact Blk.new_at _ _ _ (by simp)
  have sb : Below w.heap.size w W := by rw [← hW]; exact ((Below.refl _ _).alloc (Nat.le_refl _) _).alloc (by simp) _
  unfold Raw.val
  go_enter Tryd.func4, Tryd.ntmps4
  go_wp2_with fail
  refine (speaks_any W (ht.atBelow sb (Nat.le_refl _))).mono ?_
  rintro e w1 ⟨rfl, hb1⟩
  replace bX := bX.below hb1 bX.lt
  replace bY := bY.below hb1 bY.lt
  replace sb := sb.trans (hb1.mono sb.size)
  clear hb1
  obtain ⟨x0, x1, -⟩ := bX.c2
  obtain ⟨y0, y1, -⟩ := bY.c2
  go_wp2_with fail
  refine (odd2 x y w1 (hx.below sb (Nat.le_refl _)) (hy.below sb (Nat.le_refl _))).mono ?_
  rintro e w2 ⟨o, rfl, hb2, hodd⟩
  replace bX := bX.below hb2 bX.lt
  replace bY := bY.below hb2 bY.lt
  replace sb := sb.trans (hb2.mono sb.size)
  cases o with
  | true =>
    clear x0 x1 y0 y1
    go_wp2_with fail
    go_ret
    exact ⟨rfl, sb⟩
  | false =>
    obtain ⟨ox, oy⟩ := hodd rfl
    obtain ⟨X, hX, lX⟩ := hx.int ox
    obtain ⟨Y, hY, lY⟩ := hy.int oy
    clear x0 x1 y0 y1 ox oy hodd hx hy hb2
    obtain ⟨n1, a1, c1, d1⟩ := x
    obtain ⟨n2, a2, c2, d2⟩ := y
    unfold Raw.val at hX hY
    simp only at hX hY bX bY ⊢
    generalize d1.length = l1 at *
    generalize d2.length = l2 at *
    obtain ⟨x0, x1, -⟩ := bX.c2
    obtain ⟨y0, y1, -⟩ := bY.c2
    clear bX bY hW
    have sX := sm10 lX
    have sY := sm10 lY
    have l1' := len_add X Y
    have l2' := len_mul X Y
    have lq := len_le (div_small X Y)
    have lr := len_rest X Y
    have lq2 := len_quot X Y
    have lg : len ((Nat.gcd X.natAbs Y.natAbs : Nat) : Int) ≤ max (len X) (len Y) := by
      rcases Nat.eq_zero_or_pos Y.natAbs with h | h
      · rw [h, Nat.gcd_zero_right]; exact Nat.le_trans (len_le (by simp)) (Nat.le_max_left _ _)
      · exact Nat.le_trans (len_le (x := ((Nat.gcd X.natAbs Y.natAbs : Nat) : Int)) (y := Y) (by have := Nat.le_of_dvd h (Nat.gcd_dvd_right X.natAbs Y.natAbs); omega)) (Nat.le_max_right _ _)
    have ln := len_neg X
    have dX : Dm X := dm_len (by omega)
    have dY : Dm Y := dm_len (by omega)
    have HD : Hid (dlen (X + Y) ≤ 100000000000 ∧ dlen (X * Y) ≤ 100000000000 ∧ dlen (-X) ≤ 100000000000 ∧ dlen (if Y = 0 then (0 : Int) else X / Y) ≤ 100000000000 ∧ dlen (if Y = 0 then (0 : Int) else X % Y) ≤ 100000000000 ∧ dlen ((Nat.gcd X.natAbs Y.natAbs : Nat) : Int) ≤ 100000000000) := hide ⟨dm_len (by omega), dm_len (by omega), dm_len (by omega), dm_len (by omega), dm_len (by omega), dm_len (by omega)⟩
    have HS : Hid (Sm (X + Y) ∧ Sm (X * Y) ∧ Sm (-X) ∧ Sm (if Y = 0 then (0 : Int) else X / Y) ∧ Sm (if Y = 0 then (0 : Int) else X % Y) ∧ Sm ((Nat.gcd X.natAbs Y.natAbs : Nat) : Int)) := hide ⟨by unfold Sm; omega, by unfold Sm; omega, by unfold Sm; omega, by unfold Sm; omega, by unfold Sm; omega, by unfold Sm; omega⟩
    have lx9 : len X ≤ 1000000000 := by omega
    have ly9 : len Y ≤ 1000000000 := by omega
    clear l1' l2' lq lr lq2 lg ln
    have hS1 : w2.cell? ⟨w.heap.size, 0, none⟩ = some (.bool n1) ∧ w2.cell? ⟨w.heap.size, 1, none⟩ = some (.slice a1 l1 c1) ∧ w2.cell? ⟨w.heap.size + 1, 0, none⟩ = some (.bool n2) ∧ w2.cell? ⟨w.heap.size + 1, 1, none⟩ = some (.slice a2 l2 c2) ∧ Below w.heap.size w w2 := ⟨x0, x1, y0, y1, sb⟩
    go_upto_region 5 with (fail)
    go_cut [5, 6] from 17 to 20 (fun v5 v6 wc => ∃ g5 g6 m1 s1 j1 k1 m2 s2 j2 k2, v5 = .pointer (some ⟨g5, 0, none⟩) ∧ v6 = .pointer (some ⟨g6, 0, none⟩) ∧ Blk wc g5 30 #[.bool m1, .slice s1 j1 k1] ∧ Blk wc g6 30 #[.bool m2, .slice s2 j2 k2] ∧ NumV wc (.agg #[.bool m1, .slice s1 j1 k1]) X ∧ NumV wc (.agg #[.bool m2, .slice s2 j2 k2]) Y ∧ wc.cell? ⟨w.heap.size, 0, none⟩ = some (.bool n1) ∧ wc.cell? ⟨w.heap.size, 1, none⟩ = some (.slice a1 l1 c1) ∧ wc.cell? ⟨w.heap.size + 1, 0, none⟩ = some (.bool n2) ∧ wc.cell? ⟨w.heap.size + 1, 1, none⟩ = some (.slice a2 l2 c2) ∧ Below w.heap.size w wc)
    case first =>
      go_region_held3 (fun w' => w'.cell? ⟨w.heap.size, 0, none⟩ = some (.bool n1) ∧ w'.cell? ⟨w.heap.size, 1, none⟩ = some (.slice a1 l1 c1) ∧ w'.cell? ⟨w.heap.size + 1, 0, none⟩ = some (.bool n2) ∧ w'.cell? ⟨w.heap.size + 1, 1, none⟩ = some (.slice a2 l2 c2) ∧ Below w.heap.size w w')
        (exact keepD hS1 (by repeat (first | with_reducible exact Below.refl _ _ | with_reducible refine bl_drew ?_ | with_reducible refine bl_alloc ?_ _ | with_reducible refine bl_set ?_ (by omega) _ _ | with_reducible refine bl_call ?_ (by with_reducible assumption))))
        (first
          | (go_at_call_of 22 (Value.agg #[.bool n1, .slice a1 l1 c1]); (with_reducible refine (ROf_any _ (hX.below (by go_split_ands; assumption) (Nat.le_refl _)) lx9).mono ?_); rintro e w1 ⟨r, rfl, hr, hb1⟩; obtain ⟨rn, ra, rl, rk, rfl⟩ := hr.parts; have hs1 := hb1.size; (try simp only [World.size_drew] at hs1); (try simp only [World.size_alloc] at hs1); (first | with_reducible replace hA := Blk.later hb1 hA | with_reducible replace hA := Blk.later hb1 (Blk.alloc hA _) | with_reducible replace hA := Blk.later hb1 (Blk.alloc (Blk.alloc hA _) _) | skip); (first | with_reducible replace hB := Blk.later hb1 hB | with_reducible replace hB := Blk.later hb1 (Blk.alloc hB _) | with_reducible replace hB := Blk.later hb1 (Blk.alloc (Blk.alloc hB _) _) | skip); (first | (have _t := hA; first | (have hB := Blk.later hb1 (Blk.new _ _ _)) | skip) | (have hA := Blk.later hb1 (Blk.alloc (Blk.new _ _ _) _); have hB := Blk.later hb1 (Blk.new _ _ _)) | (have hA := Blk.later hb1 (Blk.drew (Blk.alloc (Blk.new _ _ _) _)); have hB := Blk.later hb1 (Blk.drew (Blk.new _ _ _))) | (have hA := Blk.later hb1 (Blk.new _ _ _)) | (have hA := Blk.later hb1 (Blk.drew (Blk.new _ _ _))) | skip); (try (try simp only [World.size_alloc] at hA); obtain ⟨khA0, khA1, khAf⟩ := hA.c2; have khA2 := khAf 0; have khA3 := khAf 1; have khAl := hA.lt; clear khAf); (try (try simp only [World.size_alloc] at hB); obtain ⟨khB0, khB1, khBf⟩ := hB.c2; have khB2 := khBf 0; have khB3 := khBf 1; have khBl := hB.lt; clear khBf))
          | (go_at_call_of 22 (Value.agg #[.bool n2, .slice a2 l2 c2]); (with_reducible refine (ROf_any _ (hY.below (by go_split_ands; assumption) (Nat.le_refl _)) ly9).mono ?_); rintro e w1 ⟨r', rfl, hr', hb1⟩; obtain ⟨rn', ra', rl', rk', rfl⟩ := hr'.parts; have hs1 := hb1.size; (try simp only [World.size_drew] at hs1); (try simp only [World.size_alloc] at hs1); (first | with_reducible replace hA := Blk.later hb1 hA | with_reducible replace hA := Blk.later hb1 (Blk.alloc hA _) | with_reducible replace hA := Blk.later hb1 (Blk.alloc (Blk.alloc hA _) _) | skip); (first | with_reducible replace hB := Blk.later hb1 hB | with_reducible replace hB := Blk.later hb1 (Blk.alloc hB _) | with_reducible replace hB := Blk.later hb1 (Blk.alloc (Blk.alloc hB _) _) | skip); (first | (have _t := hA; first | (have hB := Blk.later hb1 (Blk.new _ _ _)) | skip) | (have hA := Blk.later hb1 (Blk.alloc (Blk.new _ _ _) _); have hB := Blk.later hb1 (Blk.new _ _ _)) | (have hA := Blk.later hb1 (Blk.drew (Blk.alloc (Blk.new _ _ _) _)); have hB := Blk.later hb1 (Blk.drew (Blk.new _ _ _))) | (have hA := Blk.later hb1 (Blk.new _ _ _)) | (have hA := Blk.later hb1 (Blk.drew (Blk.new _ _ _))) | skip); (try (try simp only [World.size_alloc] at hA); obtain ⟨khA0, khA1, khAf⟩ := hA.c2; have khA2 := khAf 0; have khA3 := khAf 1; have khAl := hA.lt; clear khAf); (try (try simp only [World.size_alloc] at hB); obtain ⟨khB0, khB1, khBf⟩ := hB.c2; have khB2 := khBf 0; have khB3 := khBf 1; have khBl := hB.lt; clear khBf)))
      all_goals
        go_wp2_with fail
        go_meet
        refine ⟨_, _, rn, ra, rl, rk, rn', ra', rl', rk', rfl, rfl, ?r1, ?r2, ?r3, ?r4, ?r5⟩
        case r1 => repeat (first | with_reducible refine Blk.later (by with_reducible assumption) ?_ | with_reducible refine Blk.drew ?_ | with_reducible exact Blk.new _ _ _ | with_reducible exact Blk.new_at _ _ _ (World.size_alloc _ _).symm | with_reducible exact Blk.new_at _ _ _ ((World.size_setCell _ _ _).trans (World.size_setCell _ _ _)).symm | with_reducible refine Blk.alloc ?_ _ | with_reducible refine Blk.two (a := .bool false) (b := .slice none 0 0) ?_ _ _ | with_reducible refine Blk.far ?_ (by simp only [ne_eq]; omega) _)
        case r2 => repeat (first | with_reducible refine Blk.later (by with_reducible assumption) ?_ | with_reducible refine Blk.drew ?_ | with_reducible exact Blk.new _ _ _ | with_reducible exact Blk.new_at _ _ _ (World.size_alloc _ _).symm | with_reducible exact Blk.new_at _ _ _ ((World.size_setCell _ _ _).trans (World.size_setCell _ _ _)).symm | with_reducible refine Blk.alloc ?_ _ | with_reducible refine Blk.two (a := .bool false) (b := .slice none 0 0) ?_ _ _ | with_reducible refine Blk.far ?_ (by simp only [ne_eq]; omega) _)
        case r3 => ((repeat (first | with_reducible assumption | with_reducible refine NumV.drewd ?_ | with_reducible refine NumV.allocd ?_ _ | with_reducible refine NumV.store ?_ (t := 30) (n := false) (b := none) (l := 0) (m := 0) ?_ _ _ | with_reducible refine NumV.later (by with_reducible assumption) ?_)); all_goals repeat (first | with_reducible refine Blk.later (by with_reducible assumption) ?_ | with_reducible refine Blk.drew ?_ | with_reducible exact Blk.new _ _ _ | with_reducible exact Blk.new_at _ _ _ (World.size_alloc _ _).symm | with_reducible exact Blk.new_at _ _ _ ((World.size_setCell _ _ _).trans (World.size_setCell _ _ _)).symm | with_reducible refine Blk.alloc ?_ _ | with_reducible refine Blk.two (a := .bool false) (b := .slice none 0 0) ?_ _ _ | with_reducible refine Blk.far ?_ (by simp only [ne_eq]; omega) _))
        case r4 => ((repeat (first | with_reducible assumption | with_reducible refine NumV.drewd ?_ | with_reducible refine NumV.allocd ?_ _ | with_reducible refine NumV.store ?_ (t := 30) (n := false) (b := none) (l := 0) (m := 0) ?_ _ _ | with_reducible refine NumV.later (by with_reducible assumption) ?_)); all_goals repeat (first | with_reducible refine Blk.later (by with_reducible assumption) ?_ | with_reducible refine Blk.drew ?_ | with_reducible exact Blk.new _ _ _ | with_reducible exact Blk.new_at _ _ _ (World.size_alloc _ _).symm | with_reducible exact Blk.new_at _ _ _ ((World.size_setCell _ _ _).trans (World.size_setCell _ _ _)).symm | with_reducible refine Blk.alloc ?_ _ | with_reducible refine Blk.two (a := .bool false) (b := .slice none 0 0) ?_ _ _ | with_reducible refine Blk.far ?_ (by simp only [ne_eq]; omega) _))
        case r5 => exact keepD hS1 (by repeat (first | with_reducible exact Below.refl _ _ | with_reducible refine bl_drew ?_ | with_reducible refine bl_alloc ?_ _ | with_reducible refine bl_set ?_ (by omega) _ _ | with_reducible refine bl_call ?_ (by with_reducible assumption)))
    case rest =>
      obtain ⟨g5, g6, m1, s1, j1, k1, m2, s2, j2, k2, rfl, rfl, hBa, hBb, ha, hb, x0, x1, y0, y1, sb⟩ := hcut
      clear hS1
      rename_i wc
      have hXw := hX.below sb (Nat.le_refl _)
      have hYw := hY.below sb (Nat.le_refl _)
      go_wp2_with fail
      refine (Div_any _ hXw hYw sX sY).mono ?_
      rintro e w8 ⟨q, r, rfl, hq, hr, hb8⟩
      obtain ⟨x0, x1, y0, y1, sb⟩ := keepD ⟨x0, x1, y0, y1, sb⟩ hb8
      replace hBa := hBa.below hb8 hBa.lt
      replace hBb := hBb.below hb8 hBb.lt
      replace ha := ha.below hb8 (Nat.le_refl _)
      replace hb := hb.below hb8 (Nat.le_refl _)
      clear hXw hYw hb8
      obtain ⟨qn, qa, ql, qc, rfl⟩ := hq.parts
      obtain ⟨rn, ra, rl, rc, rfl⟩ := hr.parts
      obtain ⟨w8z, hzw8⟩ : ∃ w5, (w8.alloc (.cells #[.bool false, .slice none 0 0] 24)).alloc (.cells #[.bool false, .slice none 0 0] 24) = w5 := ⟨_, rfl⟩
      obtain ⟨⟨q0, q1, q2, q3, q4, q5⟩, w9, hww9, hBq, hBr, hbw9⟩ := boxes2 hzw8 (.bool qn) (.slice qa ql qc) (.bool rn) (.slice ra rl rc)
      have HW := hide hww9
      clear hww9
      go_upto_region 7 with (fail)
      rw [HW.out]
      clear HW hzw8 q0 q1 q2 q3 q4 q5
      generalize hgq : w8.heap.size = g9 at hBq hBr ⊢
      clear hgq
      obtain ⟨x0, x1, y0, y1, sb⟩ := keepD ⟨x0, x1, y0, y1, sb⟩ hbw9
      replace hBa := hBa.below hbw9 hBa.lt
      replace hBb := hBb.below hbw9 hBb.lt
      replace ha := ha.below hbw9 (Nat.le_refl _)
      replace hb := hb.below hbw9 (Nat.le_refl _)
      replace hq := hq.below hbw9 (Nat.le_refl _)
      replace hr := hr.below hbw9 (Nat.le_refl _)
      clear hbw9
      obtain ⟨a0, a1v, -⟩ := hBa.c2
      obtain ⟨b0, b1v, -⟩ := hBb.c2
      go_wp2_with fail
      refine (RDiv_any _ ha hb dX dY).mono ?_
      rintro e w10 ⟨s, t, rfl, hs, ht2, hb10⟩
      clear a0 a1v b0 b1v
      obtain ⟨x0, x1, y0, y1, sb⟩ := keepD ⟨x0, x1, y0, y1, sb⟩ hb10
      replace hBa := hBa.below hb10 hBa.lt
      replace hBb := hBb.below hb10 hBb.lt
      replace hBq := hBq.below hb10 hBq.lt
      replace hBr := hBr.below hb10 hBr.lt
      replace ha := ha.below hb10 (Nat.le_refl _)
      replace hb := hb.below hb10 (Nat.le_refl _)
      replace hq := hq.below hb10 (Nat.le_refl _)
      replace hr := hr.below hb10 (Nat.le_refl _)
      clear hb10
      obtain ⟨sn, sa, sl, sc, rfl⟩ := hs.parts
      obtain ⟨t2n, t2a, t2l, t2c, rfl⟩ := ht2.parts
      obtain ⟨w10z, hzw10⟩ : ∃ w5, (w10.alloc (.cells #[.bool false, .slice none 0 0] 30)).alloc (.cells #[.bool false, .slice none 0 0] 30) = w5 := ⟨_, rfl⟩
      obtain ⟨⟨q0, q1, q2, q3, q4, q5⟩, w11, hww11, hBs, hBt2, hbw11⟩ := boxes2 hzw10 (.bool sn) (.slice sa sl sc) (.bool t2n) (.slice t2a t2l t2c)
      have HW := hide hww11
      clear hww11
      go_upto_region 8 with (fail)
      rw [HW.out]
      clear HW hzw10 q0 q1 q2 q3 q4 q5
      generalize hgs : w10.heap.size = g11 at hBs hBt2 ⊢
      clear hgs
      obtain ⟨x0, x1, y0, y1, sb⟩ := keepD ⟨x0, x1, y0, y1, sb⟩ hbw11
      replace hBa := hBa.below hbw11 hBa.lt
      replace hBb := hBb.below hbw11 hBb.lt
      replace hBq := hBq.below hbw11 hBq.lt
      replace hBr := hBr.below hbw11 hBr.lt
      replace ha := ha.below hbw11 (Nat.le_refl _)
      replace hb := hb.below hbw11 (Nat.le_refl _)
      replace hq := hq.below hbw11 (Nat.le_refl _)
      replace hr := hr.below hbw11 (Nat.le_refl _)
      replace hs := hs.below hbw11 (Nat.le_refl _)
      replace ht2 := ht2.below hbw11 (Nat.le_refl _)
      clear hbw11
      have hXw := hX.below sb (Nat.le_refl _)
      have hYw := hY.below sb (Nat.le_refl _)
      have htw := ht.atBelow sb (Nat.le_refl _)
      obtain ⟨ax0, ax1, -⟩ := hBa.c2
      obtain ⟨bx0, bx1, -⟩ := hBb.c2
      obtain ⟨qx0, qx1, -⟩ := hBq.c2
      obtain ⟨rx0, rx1, -⟩ := hBr.c2
      obtain ⟨sx0, sx1, -⟩ := hBs.c2
      obtain ⟨tx0, tx1, -⟩ := hBt2.c2
      obtain ⟨dA, dM, dN, dq, dr, dG⟩ := HD.out
      obtain ⟨sA, sM, sN, sq, sr, sG⟩ := HS.out
      have hBd := (Below.refl w11.heap.size w11).drew
      clear hBa hBb hBq hBr hBs hBt2 HD HS
      obtain ⟨C, hord⟩ : ∃ C, ordZ X Y = C := ⟨_, rfl⟩
      replace hord := hide hord
      refine wp_region_held_drew (S := fun w' => w'.cell? ⟨w.heap.size, 0, none⟩ = some (.bool n1) ∧ w'.cell? ⟨w.heap.size, 1, none⟩ = some (.slice a1 l1 c1) ∧ w'.cell? ⟨w.heap.size + 1, 0, none⟩ = some (.bool n2) ∧ w'.cell? ⟨w.heap.size + 1, 1, none⟩ = some (.slice a2 l2 c2) ∧ w'.cell? ⟨g5, 0, none⟩ = some (.bool m1) ∧ w'.cell? ⟨g5, 1, none⟩ = some (.slice s1 j1 k1) ∧ w'.cell? ⟨g6, 0, none⟩ = some (.bool m2) ∧ w'.cell? ⟨g6, 1, none⟩ = some (.slice s2 j2 k2) ∧ w'.cell? ⟨g9, 0, none⟩ = some (.bool qn) ∧ w'.cell? ⟨g9, 1, none⟩ = some (.slice qa ql qc) ∧ w'.cell? ⟨g9 + 1, 0, none⟩ = some (.bool rn) ∧ w'.cell? ⟨g9 + 1, 1, none⟩ = some (.slice ra rl rc) ∧ w'.cell? ⟨g11, 0, none⟩ = some (.bool sn) ∧ w'.cell? ⟨g11, 1, none⟩ = some (.slice sa sl sc) ∧ w'.cell? ⟨g11 + 1, 0, none⟩ = some (.bool t2n) ∧ w'.cell? ⟨g11 + 1, 1, none⟩ = some (.slice t2a t2l t2c) ∧ Below w11.heap.size w11 w') (by kernel_rfl) (⟨x0, x1, y0, y1, ax0, ax1, bx0, bx1, qx0, qx1, rx0, rx1, sx0, sx1, tx0, tx1, hBd⟩) (fun hS => ?_)
      refine wpAnyH_take (i := 0) (oi := { dst := some 33, op := Op.load 24 (Operand.tmp 2), type := 24, pos := "law.go:37", after := #[], guard := none }) (v := ?_) rfl (by kernel_rfl) (by kernel_rfl) (by kernel_rfl) (fun _ _ _ h => h) (Or.inl ⟨by rfl, ?_⟩) hS ?_
      rotate_left
      · (intro w' hSw; (try dsimp only at hSw); go_simp; try with_reducible rfl)
      try simp only [Act.put, List.setIfInBounds_toArray, List.set_cons_zero, List.set_cons_succ]
      refine wpAnyH_take (i := 1) (oi := { dst := some 34, op := Op.load 24 (Operand.tmp 3), type := 24, pos := "law.go:37", after := #[], guard := none }) (v := ?_) rfl (by kernel_rfl) (by kernel_rfl) (by kernel_rfl) (fun _ _ _ h => h) (Or.inl ⟨by rfl, ?_⟩) hS ?_
      rotate_left
      · (intro w' hSw; (try dsimp only at hSw); go_simp; try with_reducible rfl)
      try simp only [Act.put, List.setIfInBounds_toArray, List.set_cons_zero, List.set_cons_succ]
      refine wpAnyH_take (i := 3) (oi := { dst := some 36, op := Op.load 30 (Operand.tmp 5), type := 30, pos := "law.go:37", after := #[], guard := none }) (v := ?_) rfl (by kernel_rfl) (by kernel_rfl) (by kernel_rfl) (fun _ _ _ h => h) (Or.inl ⟨by rfl, ?_⟩) hS ?_
      rotate_left
      · (intro w' hSw; (try dsimp only at hSw); go_simp; try with_reducible rfl)
      try simp only [Act.put, List.setIfInBounds_toArray, List.set_cons_zero, List.set_cons_succ]
      refine wpAnyH_take (i := 4) (oi := { dst := some 37, op := Op.load 30 (Operand.tmp 6), type := 30, pos := "law.go:37", after := #[], guard := none }) (v := ?_) rfl (by kernel_rfl) (by kernel_rfl) (by kernel_rfl) (fun _ _ _ h => h) (Or.inl ⟨by rfl, ?_⟩) hS ?_
      rotate_left
      · (intro w' hSw; (try dsimp only at hSw); go_simp; try with_reducible rfl)
      try simp only [Act.put, List.setIfInBounds_toArray, List.set_cons_zero, List.set_cons_succ]
      refine wpAnyH_ready (rs := [2]) (by kernel_rfl) (by simp) ?_
      refine AllReadyH.cons (o := { dst := some 35, op := Op.call { callee := Callee.value (Operand.func 25), args := #[Operand.tmp 33, Operand.tmp 34], argTypes := #[24, 24] }, type := 24, pos := "law.go:37", after := #[{ on := 0, ground := Ground.data }, { on := 1, ground := Ground.data }], guard := none }) rfl (fun K hK => ?_) AllReadyH.nil
      go_simp
      (go_at_call 25; (with_reducible refine (Add_any _ (hXw.below (hS.2.2.2.2.2.2.2.2.2.2.2.2.2.2.2.2) (Nat.le_refl _)) (hYw.below (hS.2.2.2.2.2.2.2.2.2.2.2.2.2.2.2.2) (Nat.le_refl _)) sX sY).mono ?_); rintro e wn ⟨rW, rfl, hW1, hb1⟩)
      go_wp2_with fail
      refine hK.out _ _ (⟨cellK hb1 hS.1, cellK hb1 hS.2.1, cellK hb1 hS.2.2.1, cellK hb1 hS.2.2.2.1, cellK hb1 hS.2.2.2.2.1, cellK hb1 hS.2.2.2.2.2.1, cellK hb1 hS.2.2.2.2.2.2.1, cellK hb1 hS.2.2.2.2.2.2.2.1, cellK hb1 hS.2.2.2.2.2.2.2.2.1, cellK hb1 hS.2.2.2.2.2.2.2.2.2.1, cellK hb1 hS.2.2.2.2.2.2.2.2.2.2.1, cellK hb1 hS.2.2.2.2.2.2.2.2.2.2.2.1, cellK hb1 hS.2.2.2.2.2.2.2.2.2.2.2.2.1, cellK hb1 hS.2.2.2.2.2.2.2.2.2.2.2.2.2.1, cellK hb1 hS.2.2.2.2.2.2.2.2.2.2.2.2.2.2.1, cellK hb1 hS.2.2.2.2.2.2.2.2.2.2.2.2.2.2.2.1, (hS.2.2.2.2.2.2.2.2.2.2.2.2.2.2.2.2).trans (hb1.mono (hS.2.2.2.2.2.2.2.2.2.2.2.2.2.2.2.2).size)⟩) (fun hS => ?_)
      clear hK K hb1
      try simp only [Act.put, List.setIfInBounds_toArray, List.set_cons_zero, List.set_cons_succ]
      refine wpAnyH_ready (rs := [5]) (by kernel_rfl) (by simp) ?_
      refine AllReadyH.cons (o := { dst := some 38, op := Op.call { callee := Callee.value (Operand.func 26), args := #[Operand.tmp 36, Operand.tmp 37], argTypes := #[30, 30] }, type := 30, pos := "law.go:37", after := #[{ on := 3, ground := Ground.data }, { on := 4, ground := Ground.data }, { on := 2, ground := Ground.chain }], guard := none }) rfl (fun K hK => ?_) AllReadyH.nil
      go_simp
      (go_at_call 26; (with_reducible refine (RAdd_any _ (ha.below (hS.2.2.2.2.2.2.2.2.2.2.2.2.2.2.2.2) (Nat.le_refl _)) (hb.below (hS.2.2.2.2.2.2.2.2.2.2.2.2.2.2.2.2) (Nat.le_refl _)) dX dY).mono ?_); rintro e wn ⟨rR, rfl, hR1, hb1⟩; have hW2 := hW1.below hb1 (Nat.le_refl _))
      go_wp2_with fail
      refine hK.out _ _ (⟨cellK hb1 hS.1, cellK hb1 hS.2.1, cellK hb1 hS.2.2.1, cellK hb1 hS.2.2.2.1, cellK hb1 hS.2.2.2.2.1, cellK hb1 hS.2.2.2.2.2.1, cellK hb1 hS.2.2.2.2.2.2.1, cellK hb1 hS.2.2.2.2.2.2.2.1, cellK hb1 hS.2.2.2.2.2.2.2.2.1, cellK hb1 hS.2.2.2.2.2.2.2.2.2.1, cellK hb1 hS.2.2.2.2.2.2.2.2.2.2.1, cellK hb1 hS.2.2.2.2.2.2.2.2.2.2.2.1, cellK hb1 hS.2.2.2.2.2.2.2.2.2.2.2.2.1, cellK hb1 hS.2.2.2.2.2.2.2.2.2.2.2.2.2.1, cellK hb1 hS.2.2.2.2.2.2.2.2.2.2.2.2.2.2.1, cellK hb1 hS.2.2.2.2.2.2.2.2.2.2.2.2.2.2.2.1, (hS.2.2.2.2.2.2.2.2.2.2.2.2.2.2.2.2).trans (hb1.mono (hS.2.2.2.2.2.2.2.2.2.2.2.2.2.2.2.2).size)⟩) (fun hS => ?_)
      clear hK K hb1
      try simp only [Act.put, List.setIfInBounds_toArray, List.set_cons_zero, List.set_cons_succ]
      refine wpAnyH_ready (rs := [6]) (by kernel_rfl) (by simp) ?_
      refine AllReadyH.cons (o := { dst := some 39, op := Op.call { callee := Callee.value (Operand.func 15), args := #[Operand.tmp 38], argTypes := #[30] }, type := 24, pos := "law.go:37", after := #[{ on := 5, ground := Ground.data }, { on := 5, ground := Ground.chain }], guard := none }) rfl (fun K hK => ?_) AllReadyH.nil
      go_simp
      (go_at_call 15; (with_reducible refine (Form_any _ hR1 dA).mono ?_); rintro e wn ⟨rF, rfl, hF1, hb1⟩; have hW3 := hW2.below hb1 (Nat.le_refl _))
      go_wp2_with fail
      refine hK.out _ _ (⟨cellK hb1 hS.1, cellK hb1 hS.2.1, cellK hb1 hS.2.2.1, cellK hb1 hS.2.2.2.1, cellK hb1 hS.2.2.2.2.1, cellK hb1 hS.2.2.2.2.2.1, cellK hb1 hS.2.2.2.2.2.2.1, cellK hb1 hS.2.2.2.2.2.2.2.1, cellK hb1 hS.2.2.2.2.2.2.2.2.1, cellK hb1 hS.2.2.2.2.2.2.2.2.2.1, cellK hb1 hS.2.2.2.2.2.2.2.2.2.2.1, cellK hb1 hS.2.2.2.2.2.2.2.2.2.2.2.1, cellK hb1 hS.2.2.2.2.2.2.2.2.2.2.2.2.1, cellK hb1 hS.2.2.2.2.2.2.2.2.2.2.2.2.2.1, cellK hb1 hS.2.2.2.2.2.2.2.2.2.2.2.2.2.2.1, cellK hb1 hS.2.2.2.2.2.2.2.2.2.2.2.2.2.2.2.1, (hS.2.2.2.2.2.2.2.2.2.2.2.2.2.2.2.2).trans (hb1.mono (hS.2.2.2.2.2.2.2.2.2.2.2.2.2.2.2.2).size)⟩) (fun hS => ?_)
      clear hK K hb1
      try simp only [Act.put, List.setIfInBounds_toArray, List.set_cons_zero, List.set_cons_succ]
      refine wpAnyH_ready (rs := [7]) (by kernel_rfl) (by simp) ?_
      refine AllReadyH.cons (o := { dst := some 40, op := Op.call { callee := Callee.value (Operand.func 14), args := #[Operand.tmp 35, Operand.tmp 39], argTypes := #[24, 24] }, type := 4, pos := "law.go:37", after := #[{ on := 2, ground := Ground.data }, { on := 6, ground := Ground.data }, { on := 6, ground := Ground.chain }], guard := none }) rfl (fun K hK => ?_) AllReadyH.nil
      go_simp
      (go_at_call 14; (with_reducible refine (Same_true hW3 hF1 rfl sA).mono ?_); rintro e wn ⟨rfl, hb1⟩)
      go_wp2_with fail
      refine hK.out _ _ (⟨cellK hb1 hS.1, cellK hb1 hS.2.1, cellK hb1 hS.2.2.1, cellK hb1 hS.2.2.2.1, cellK hb1 hS.2.2.2.2.1, cellK hb1 hS.2.2.2.2.2.1, cellK hb1 hS.2.2.2.2.2.2.1, cellK hb1 hS.2.2.2.2.2.2.2.1, cellK hb1 hS.2.2.2.2.2.2.2.2.1, cellK hb1 hS.2.2.2.2.2.2.2.2.2.1, cellK hb1 hS.2.2.2.2.2.2.2.2.2.2.1, cellK hb1 hS.2.2.2.2.2.2.2.2.2.2.2.1, cellK hb1 hS.2.2.2.2.2.2.2.2.2.2.2.2.1, cellK hb1 hS.2.2.2.2.2.2.2.2.2.2.2.2.2.1, cellK hb1 hS.2.2.2.2.2.2.2.2.2.2.2.2.2.2.1, cellK hb1 hS.2.2.2.2.2.2.2.2.2.2.2.2.2.2.2.1, (hS.2.2.2.2.2.2.2.2.2.2.2.2.2.2.2.2).trans (hb1.mono (hS.2.2.2.2.2.2.2.2.2.2.2.2.2.2.2.2).size)⟩) (fun hS => ?_)
      clear hK K hb1
      try simp only [Act.put, List.setIfInBounds_toArray, List.set_cons_zero, List.set_cons_succ]
      refine wpAnyH_take (i := 8) (oi := { dst := some 41, op := Op.move (Operand.tmp 40), type := 4, pos := "law.go:37", after := #[{ on := 7, ground := Ground.data }, { on := 7, ground := Ground.chain }], guard := none }) (v := ?_) rfl (by kernel_rfl) (by kernel_rfl) (by kernel_rfl) (fun _ _ _ h => h) (Or.inl ⟨by rfl, ?_⟩) hS ?_
      rotate_left
      · (intro w' hSw; (try dsimp only at hSw); go_simp; try with_reducible rfl)
      try simp only [Act.put, List.setIfInBounds_toArray, List.set_cons_zero, List.set_cons_succ]
      refine wpAnyH_take (i := 9) (oi := { dst := some 42, op := Op.load 24 (Operand.tmp 2), type := 24, pos := "law.go:37", after := #[{ on := 8, ground := Ground.guard }], guard := some (8, true) }) (v := ?_) rfl (by kernel_rfl) (by kernel_rfl) (by kernel_rfl) (fun _ _ _ h => h) (Or.inl ⟨by rfl, ?_⟩) hS ?_
      rotate_left
      · (intro w' hSw; (try dsimp only at hSw); go_simp; try with_reducible rfl)
      try simp only [Act.put, List.setIfInBounds_toArray, List.set_cons_zero, List.set_cons_succ]
      refine wpAnyH_take (i := 10) (oi := { dst := some 43, op := Op.load 24 (Operand.tmp 3), type := 24, pos := "law.go:37", after := #[{ on := 8, ground := Ground.guard }], guard := some (8, true) }) (v := ?_) rfl (by kernel_rfl) (by kernel_rfl) (by kernel_rfl) (fun _ _ _ h => h) (Or.inl ⟨by rfl, ?_⟩) hS ?_
      rotate_left
      · (intro w' hSw; (try dsimp only at hSw); go_simp; try with_reducible rfl)
      try simp only [Act.put, List.setIfInBounds_toArray, List.set_cons_zero, List.set_cons_succ]
      refine wpAnyH_take (i := 12) (oi := { dst := some 45, op := Op.load 30 (Operand.tmp 5), type := 30, pos := "law.go:37", after := #[{ on := 8, ground := Ground.guard }], guard := some (8, true) }) (v := ?_) rfl (by kernel_rfl) (by kernel_rfl) (by kernel_rfl) (fun _ _ _ h => h) (Or.inl ⟨by rfl, ?_⟩) hS ?_
      rotate_left
      · (intro w' hSw; (try dsimp only at hSw); go_simp; try with_reducible rfl)
      try simp only [Act.put, List.setIfInBounds_toArray, List.set_cons_zero, List.set_cons_succ]
      refine wpAnyH_take (i := 13) (oi := { dst := some 46, op := Op.load 30 (Operand.tmp 6), type := 30, pos := "law.go:37", after := #[{ on := 8, ground := Ground.guard }], guard := some (8, true) }) (v := ?_) rfl (by kernel_rfl) (by kernel_rfl) (by kernel_rfl) (fun _ _ _ h => h) (Or.inl ⟨by rfl, ?_⟩) hS ?_
      rotate_left
      · (intro w' hSw; (try dsimp only at hSw); go_simp; try with_reducible rfl)
      try simp only [Act.put, List.setIfInBounds_toArray, List.set_cons_zero, List.set_cons_succ]
      refine wpAnyH_ready (rs := [11]) (by kernel_rfl) (by simp) ?_
      refine AllReadyH.cons (o := { dst := some 44, op := Op.call { callee := Callee.value (Operand.func 27), args := #[Operand.tmp 42, Operand.tmp 43], argTypes := #[24, 24] }, type := 24, pos := "law.go:37", after := #[{ on := 9, ground := Ground.data }, { on := 10, ground := Ground.data }, { on := 8, ground := Ground.chain }, { on := 8, ground := Ground.guard }], guard := some (8, true) }) rfl (fun K hK => ?_) AllReadyH.nil
      go_simp
      (go_at_call 27; (with_reducible refine (Mul_any _ (hXw.below (hS.2.2.2.2.2.2.2.2.2.2.2.2.2.2.2.2) (Nat.le_refl _)) (hYw.below (hS.2.2.2.2.2.2.2.2.2.2.2.2.2.2.2.2) (Nat.le_refl _)) sX sY).mono ?_); rintro e wn ⟨rW, rfl, hW1, hb1⟩)
      go_wp2_with fail
      refine hK.out _ _ (⟨cellK hb1 hS.1, cellK hb1 hS.2.1, cellK hb1 hS.2.2.1, cellK hb1 hS.2.2.2.1, cellK hb1 hS.2.2.2.2.1, cellK hb1 hS.2.2.2.2.2.1, cellK hb1 hS.2.2.2.2.2.2.1, cellK hb1 hS.2.2.2.2.2.2.2.1, cellK hb1 hS.2.2.2.2.2.2.2.2.1, cellK hb1 hS.2.2.2.2.2.2.2.2.2.1, cellK hb1 hS.2.2.2.2.2.2.2.2.2.2.1, cellK hb1 hS.2.2.2.2.2.2.2.2.2.2.2.1, cellK hb1 hS.2.2.2.2.2.2.2.2.2.2.2.2.1, cellK hb1 hS.2.2.2.2.2.2.2.2.2.2.2.2.2.1, cellK hb1 hS.2.2.2.2.2.2.2.2.2.2.2.2.2.2.1, cellK hb1 hS.2.2.2.2.2.2.2.2.2.2.2.2.2.2.2.1, (hS.2.2.2.2.2.2.2.2.2.2.2.2.2.2.2.2).trans (hb1.mono (hS.2.2.2.2.2.2.2.2.2.2.2.2.2.2.2.2).size)⟩) (fun hS => ?_)
      clear hK K hb1
      try simp only [Act.put, List.setIfInBounds_toArray, List.set_cons_zero, List.set_cons_succ]
      refine wpAnyH_ready (rs := [14]) (by kernel_rfl) (by simp) ?_
      refine AllReadyH.cons (o := { dst := some 47, op := Op.call { callee := Callee.value (Operand.func 28), args := #[Operand.tmp 45, Operand.tmp 46], argTypes := #[30, 30] }, type := 30, pos := "law.go:37", after := #[{ on := 12, ground := Ground.data }, { on := 13, ground := Ground.data }, { on := 11, ground := Ground.chain }, { on := 8, ground := Ground.guard }], guard := some (8, true) }) rfl (fun K hK => ?_) AllReadyH.nil
      go_simp
      (go_at_call 28; (with_reducible refine (RMul_any _ (ha.below (hS.2.2.2.2.2.2.2.2.2.2.2.2.2.2.2.2) (Nat.le_refl _)) (hb.below (hS.2.2.2.2.2.2.2.2.2.2.2.2.2.2.2.2) (Nat.le_refl _)) dX dY).mono ?_); rintro e wn ⟨rR, rfl, hR1, hb1⟩; have hW2 := hW1.below hb1 (Nat.le_refl _))
      go_wp2_with fail
      refine hK.out _ _ (⟨cellK hb1 hS.1, cellK hb1 hS.2.1, cellK hb1 hS.2.2.1, cellK hb1 hS.2.2.2.1, cellK hb1 hS.2.2.2.2.1, cellK hb1 hS.2.2.2.2.2.1, cellK hb1 hS.2.2.2.2.2.2.1, cellK hb1 hS.2.2.2.2.2.2.2.1, cellK hb1 hS.2.2.2.2.2.2.2.2.1, cellK hb1 hS.2.2.2.2.2.2.2.2.2.1, cellK hb1 hS.2.2.2.2.2.2.2.2.2.2.1, cellK hb1 hS.2.2.2.2.2.2.2.2.2.2.2.1, cellK hb1 hS.2.2.2.2.2.2.2.2.2.2.2.2.1, cellK hb1 hS.2.2.2.2.2.2.2.2.2.2.2.2.2.1, cellK hb1 hS.2.2.2.2.2.2.2.2.2.2.2.2.2.2.1, cellK hb1 hS.2.2.2.2.2.2.2.2.2.2.2.2.2.2.2.1, (hS.2.2.2.2.2.2.2.2.2.2.2.2.2.2.2.2).trans (hb1.mono (hS.2.2.2.2.2.2.2.2.2.2.2.2.2.2.2.2).size)⟩) (fun hS => ?_)
      clear hK K hb1
      try simp only [Act.put, List.setIfInBounds_toArray, List.set_cons_zero, List.set_cons_succ]
      refine wpAnyH_ready (rs := [15]) (by kernel_rfl) (by simp) ?_
      refine AllReadyH.cons (o := { dst := some 48, op := Op.call { callee := Callee.value (Operand.func 15), args := #[Operand.tmp 47], argTypes := #[30] }, type := 24, pos := "law.go:37", after := #[{ on := 14, ground := Ground.data }, { on := 14, ground := Ground.chain }, { on := 8, ground := Ground.guard }], guard := some (8, true) }) rfl (fun K hK => ?_) AllReadyH.nil
      go_simp
      (go_at_call 15; (with_reducible refine (Form_any _ hR1 dM).mono ?_); rintro e wn ⟨rF, rfl, hF1, hb1⟩; have hW3 := hW2.below hb1 (Nat.le_refl _))
      go_wp2_with fail
      refine hK.out _ _ (⟨cellK hb1 hS.1, cellK hb1 hS.2.1, cellK hb1 hS.2.2.1, cellK hb1 hS.2.2.2.1, cellK hb1 hS.2.2.2.2.1, cellK hb1 hS.2.2.2.2.2.1, cellK hb1 hS.2.2.2.2.2.2.1, cellK hb1 hS.2.2.2.2.2.2.2.1, cellK hb1 hS.2.2.2.2.2.2.2.2.1, cellK hb1 hS.2.2.2.2.2.2.2.2.2.1, cellK hb1 hS.2.2.2.2.2.2.2.2.2.2.1, cellK hb1 hS.2.2.2.2.2.2.2.2.2.2.2.1, cellK hb1 hS.2.2.2.2.2.2.2.2.2.2.2.2.1, cellK hb1 hS.2.2.2.2.2.2.2.2.2.2.2.2.2.1, cellK hb1 hS.2.2.2.2.2.2.2.2.2.2.2.2.2.2.1, cellK hb1 hS.2.2.2.2.2.2.2.2.2.2.2.2.2.2.2.1, (hS.2.2.2.2.2.2.2.2.2.2.2.2.2.2.2.2).trans (hb1.mono (hS.2.2.2.2.2.2.2.2.2.2.2.2.2.2.2.2).size)⟩) (fun hS => ?_)
      clear hK K hb1
      try simp only [Act.put, List.setIfInBounds_toArray, List.set_cons_zero, List.set_cons_succ]
      refine wpAnyH_ready (rs := [16]) (by kernel_rfl) (by simp) ?_
      refine AllReadyH.cons (o := { dst := some 49, op := Op.call { callee := Callee.value (Operand.func 14), args := #[Operand.tmp 44, Operand.tmp 48], argTypes := #[24, 24] }, type := 4, pos := "law.go:37", after := #[{ on := 11, ground := Ground.data }, { on := 15, ground := Ground.data }, { on := 15, ground := Ground.chain }, { on := 8, ground := Ground.guard }], guard := some (8, true) }) rfl (fun K hK => ?_) AllReadyH.nil
      go_simp
      (go_at_call 14; (with_reducible refine (Same_true hW3 hF1 rfl sM).mono ?_); rintro e wn ⟨rfl, hb1⟩)
      go_wp2_with fail
      refine hK.out _ _ (⟨cellK hb1 hS.1, cellK hb1 hS.2.1, cellK hb1 hS.2.2.1, cellK hb1 hS.2.2.2.1, cellK hb1 hS.2.2.2.2.1, cellK hb1 hS.2.2.2.2.2.1, cellK hb1 hS.2.2.2.2.2.2.1, cellK hb1 hS.2.2.2.2.2.2.2.1, cellK hb1 hS.2.2.2.2.2.2.2.2.1, cellK hb1 hS.2.2.2.2.2.2.2.2.2.1, cellK hb1 hS.2.2.2.2.2.2.2.2.2.2.1, cellK hb1 hS.2.2.2.2.2.2.2.2.2.2.2.1, cellK hb1 hS.2.2.2.2.2.2.2.2.2.2.2.2.1, cellK hb1 hS.2.2.2.2.2.2.2.2.2.2.2.2.2.1, cellK hb1 hS.2.2.2.2.2.2.2.2.2.2.2.2.2.2.1, cellK hb1 hS.2.2.2.2.2.2.2.2.2.2.2.2.2.2.2.1, (hS.2.2.2.2.2.2.2.2.2.2.2.2.2.2.2.2).trans (hb1.mono (hS.2.2.2.2.2.2.2.2.2.2.2.2.2.2.2.2).size)⟩) (fun hS => ?_)
      clear hK K hb1
      try simp only [Act.put, List.setIfInBounds_toArray, List.set_cons_zero, List.set_cons_succ]
      refine wpAnyH_take (i := 17) (oi := { dst := some 50, op := Op.pick (Operand.tmp 41) (Operand.tmp 49) (Operand.const (Value.bool false)), type := 4, pos := "law.go:37", after := #[{ on := 8, ground := Ground.data }, { on := 16, ground := Ground.data }], guard := none }) (v := ?_) rfl (by kernel_rfl) (by kernel_rfl) (by kernel_rfl) (fun _ _ _ h => h) (Or.inl ⟨by rfl, ?_⟩) hS ?_
      rotate_left
      · (intro w' hSw; (try dsimp only at hSw); go_simp; try with_reducible rfl)
      try simp only [Act.put, List.setIfInBounds_toArray, List.set_cons_zero, List.set_cons_succ]
      refine wpAnyH_take (i := 18) (oi := { dst := some 51, op := Op.move (Operand.tmp 50), type := 4, pos := "law.go:37", after := #[{ on := 17, ground := Ground.data }, { on := 16, ground := Ground.chain }], guard := none }) (v := ?_) rfl (by kernel_rfl) (by kernel_rfl) (by kernel_rfl) (fun _ _ _ h => h) (Or.inl ⟨by rfl, ?_⟩) hS ?_
      rotate_left
      · (intro w' hSw; (try dsimp only at hSw); go_simp; try with_reducible rfl)
      try simp only [Act.put, List.setIfInBounds_toArray, List.set_cons_zero, List.set_cons_succ]
      refine wpAnyH_take (i := 19) (oi := { dst := some 52, op := Op.load 24 (Operand.tmp 2), type := 24, pos := "law.go:37", after := #[{ on := 18, ground := Ground.guard }], guard := some (18, true) }) (v := ?_) rfl (by kernel_rfl) (by kernel_rfl) (by kernel_rfl) (fun _ _ _ h => h) (Or.inl ⟨by rfl, ?_⟩) hS ?_
      rotate_left
      · (intro w' hSw; (try dsimp only at hSw); go_simp; try with_reducible rfl)
      try simp only [Act.put, List.setIfInBounds_toArray, List.set_cons_zero, List.set_cons_succ]
      refine wpAnyH_take (i := 21) (oi := { dst := some 54, op := Op.load 30 (Operand.tmp 5), type := 30, pos := "law.go:37", after := #[{ on := 18, ground := Ground.guard }], guard := some (18, true) }) (v := ?_) rfl (by kernel_rfl) (by kernel_rfl) (by kernel_rfl) (fun _ _ _ h => h) (Or.inl ⟨by rfl, ?_⟩) hS ?_
      rotate_left
      · (intro w' hSw; (try dsimp only at hSw); go_simp; try with_reducible rfl)
      try simp only [Act.put, List.setIfInBounds_toArray, List.set_cons_zero, List.set_cons_succ]
      refine wpAnyH_ready (rs := [20]) (by kernel_rfl) (by simp) ?_
      refine AllReadyH.cons (o := { dst := some 53, op := Op.call { callee := Callee.value (Operand.func 29), args := #[Operand.tmp 52], argTypes := #[24] }, type := 24, pos := "law.go:37", after := #[{ on := 19, ground := Ground.data }, { on := 18, ground := Ground.chain }, { on := 18, ground := Ground.guard }], guard := some (18, true) }) rfl (fun K hK => ?_) AllReadyH.nil
      go_simp
      (go_at_call 29; (with_reducible refine (Neg_any _ (hXw.below (hS.2.2.2.2.2.2.2.2.2.2.2.2.2.2.2.2) (Nat.le_refl _)) sX).mono ?_); rintro e wn ⟨rW, rfl, hW1, hb1⟩)
      go_wp2_with fail
      refine hK.out _ _ (⟨cellK hb1 hS.1, cellK hb1 hS.2.1, cellK hb1 hS.2.2.1, cellK hb1 hS.2.2.2.1, cellK hb1 hS.2.2.2.2.1, cellK hb1 hS.2.2.2.2.2.1, cellK hb1 hS.2.2.2.2.2.2.1, cellK hb1 hS.2.2.2.2.2.2.2.1, cellK hb1 hS.2.2.2.2.2.2.2.2.1, cellK hb1 hS.2.2.2.2.2.2.2.2.2.1, cellK hb1 hS.2.2.2.2.2.2.2.2.2.2.1, cellK hb1 hS.2.2.2.2.2.2.2.2.2.2.2.1, cellK hb1 hS.2.2.2.2.2.2.2.2.2.2.2.2.1, cellK hb1 hS.2.2.2.2.2.2.2.2.2.2.2.2.2.1, cellK hb1 hS.2.2.2.2.2.2.2.2.2.2.2.2.2.2.1, cellK hb1 hS.2.2.2.2.2.2.2.2.2.2.2.2.2.2.2.1, (hS.2.2.2.2.2.2.2.2.2.2.2.2.2.2.2.2).trans (hb1.mono (hS.2.2.2.2.2.2.2.2.2.2.2.2.2.2.2.2).size)⟩) (fun hS => ?_)
      clear hK K hb1
      try simp only [Act.put, List.setIfInBounds_toArray, List.set_cons_zero, List.set_cons_succ]
      refine wpAnyH_ready (rs := [22]) (by kernel_rfl) (by simp) ?_
      refine AllReadyH.cons (o := { dst := some 55, op := Op.call { callee := Callee.value (Operand.func 30), args := #[Operand.tmp 54], argTypes := #[30] }, type := 30, pos := "law.go:37", after := #[{ on := 21, ground := Ground.data }, { on := 20, ground := Ground.chain }, { on := 18, ground := Ground.guard }], guard := some (18, true) }) rfl (fun K hK => ?_) AllReadyH.nil
      go_simp
      (go_at_call 30; (with_reducible refine (RNeg_any _ (ha.below (hS.2.2.2.2.2.2.2.2.2.2.2.2.2.2.2.2) (Nat.le_refl _)) dX).mono ?_); rintro e wn ⟨rR, rfl, hR1, hb1⟩; have hW2 := hW1.below hb1 (Nat.le_refl _))
      go_wp2_with fail
      refine hK.out _ _ (⟨cellK hb1 hS.1, cellK hb1 hS.2.1, cellK hb1 hS.2.2.1, cellK hb1 hS.2.2.2.1, cellK hb1 hS.2.2.2.2.1, cellK hb1 hS.2.2.2.2.2.1, cellK hb1 hS.2.2.2.2.2.2.1, cellK hb1 hS.2.2.2.2.2.2.2.1, cellK hb1 hS.2.2.2.2.2.2.2.2.1, cellK hb1 hS.2.2.2.2.2.2.2.2.2.1, cellK hb1 hS.2.2.2.2.2.2.2.2.2.2.1, cellK hb1 hS.2.2.2.2.2.2.2.2.2.2.2.1, cellK hb1 hS.2.2.2.2.2.2.2.2.2.2.2.2.1, cellK hb1 hS.2.2.2.2.2.2.2.2.2.2.2.2.2.1, cellK hb1 hS.2.2.2.2.2.2.2.2.2.2.2.2.2.2.1, cellK hb1 hS.2.2.2.2.2.2.2.2.2.2.2.2.2.2.2.1, (hS.2.2.2.2.2.2.2.2.2.2.2.2.2.2.2.2).trans (hb1.mono (hS.2.2.2.2.2.2.2.2.2.2.2.2.2.2.2.2).size)⟩) (fun hS => ?_)
      clear hK K hb1
      try simp only [Act.put, List.setIfInBounds_toArray, List.set_cons_zero, List.set_cons_succ]
      refine wpAnyH_ready (rs := [23]) (by kernel_rfl) (by simp) ?_
      refine AllReadyH.cons (o := { dst := some 56, op := Op.call { callee := Callee.value (Operand.func 15), args := #[Operand.tmp 55], argTypes := #[30] }, type := 24, pos := "law.go:37", after := #[{ on := 22, ground := Ground.data }, { on := 22, ground := Ground.chain }, { on := 18, ground := Ground.guard }], guard := some (18, true) }) rfl (fun K hK => ?_) AllReadyH.nil
      go_simp
      (go_at_call 15; (with_reducible refine (Form_any _ hR1 dN).mono ?_); rintro e wn ⟨rF, rfl, hF1, hb1⟩; have hW3 := hW2.below hb1 (Nat.le_refl _))
      go_wp2_with fail
      refine hK.out _ _ (⟨cellK hb1 hS.1, cellK hb1 hS.2.1, cellK hb1 hS.2.2.1, cellK hb1 hS.2.2.2.1, cellK hb1 hS.2.2.2.2.1, cellK hb1 hS.2.2.2.2.2.1, cellK hb1 hS.2.2.2.2.2.2.1, cellK hb1 hS.2.2.2.2.2.2.2.1, cellK hb1 hS.2.2.2.2.2.2.2.2.1, cellK hb1 hS.2.2.2.2.2.2.2.2.2.1, cellK hb1 hS.2.2.2.2.2.2.2.2.2.2.1, cellK hb1 hS.2.2.2.2.2.2.2.2.2.2.2.1, cellK hb1 hS.2.2.2.2.2.2.2.2.2.2.2.2.1, cellK hb1 hS.2.2.2.2.2.2.2.2.2.2.2.2.2.1, cellK hb1 hS.2.2.2.2.2.2.2.2.2.2.2.2.2.2.1, cellK hb1 hS.2.2.2.2.2.2.2.2.2.2.2.2.2.2.2.1, (hS.2.2.2.2.2.2.2.2.2.2.2.2.2.2.2.2).trans (hb1.mono (hS.2.2.2.2.2.2.2.2.2.2.2.2.2.2.2.2).size)⟩) (fun hS => ?_)
      clear hK K hb1
      try simp only [Act.put, List.setIfInBounds_toArray, List.set_cons_zero, List.set_cons_succ]
      refine wpAnyH_ready (rs := [24]) (by kernel_rfl) (by simp) ?_
      refine AllReadyH.cons (o := { dst := some 57, op := Op.call { callee := Callee.value (Operand.func 14), args := #[Operand.tmp 53, Operand.tmp 56], argTypes := #[24, 24] }, type := 4, pos := "law.go:37", after := #[{ on := 20, ground := Ground.data }, { on := 23, ground := Ground.data }, { on := 23, ground := Ground.chain }, { on := 18, ground := Ground.guard }], guard := some (18, true) }) rfl (fun K hK => ?_) AllReadyH.nil
      go_simp
      (go_at_call 14; (with_reducible refine (Same_true hW3 hF1 rfl sN).mono ?_); rintro e wn ⟨rfl, hb1⟩)
      go_wp2_with fail
      refine hK.out _ _ (⟨cellK hb1 hS.1, cellK hb1 hS.2.1, cellK hb1 hS.2.2.1, cellK hb1 hS.2.2.2.1, cellK hb1 hS.2.2.2.2.1, cellK hb1 hS.2.2.2.2.2.1, cellK hb1 hS.2.2.2.2.2.2.1, cellK hb1 hS.2.2.2.2.2.2.2.1, cellK hb1 hS.2.2.2.2.2.2.2.2.1, cellK hb1 hS.2.2.2.2.2.2.2.2.2.1, cellK hb1 hS.2.2.2.2.2.2.2.2.2.2.1, cellK hb1 hS.2.2.2.2.2.2.2.2.2.2.2.1, cellK hb1 hS.2.2.2.2.2.2.2.2.2.2.2.2.1, cellK hb1 hS.2.2.2.2.2.2.2.2.2.2.2.2.2.1, cellK hb1 hS.2.2.2.2.2.2.2.2.2.2.2.2.2.2.1, cellK hb1 hS.2.2.2.2.2.2.2.2.2.2.2.2.2.2.2.1, (hS.2.2.2.2.2.2.2.2.2.2.2.2.2.2.2.2).trans (hb1.mono (hS.2.2.2.2.2.2.2.2.2.2.2.2.2.2.2.2).size)⟩) (fun hS => ?_)
      clear hK K hb1
      try simp only [Act.put, List.setIfInBounds_toArray, List.set_cons_zero, List.set_cons_succ]
      refine wpAnyH_take (i := 25) (oi := { dst := some 58, op := Op.pick (Operand.tmp 51) (Operand.tmp 57) (Operand.const (Value.bool false)), type := 4, pos := "law.go:37", after := #[{ on := 18, ground := Ground.data }, { on := 24, ground := Ground.data }], guard := none }) (v := ?_) rfl (by kernel_rfl) (by kernel_rfl) (by kernel_rfl) (fun _ _ _ h => h) (Or.inl ⟨by rfl, ?_⟩) hS ?_
      rotate_left
      · (intro w' hSw; (try dsimp only at hSw); go_simp; try with_reducible rfl)
      try simp only [Act.put, List.setIfInBounds_toArray, List.set_cons_zero, List.set_cons_succ]
      refine wpAnyH_take (i := 26) (oi := { dst := some 59, op := Op.move (Operand.tmp 58), type := 4, pos := "law.go:37", after := #[{ on := 25, ground := Ground.data }, { on := 24, ground := Ground.chain }], guard := none }) (v := ?_) rfl (by kernel_rfl) (by kernel_rfl) (by kernel_rfl) (fun _ _ _ h => h) (Or.inl ⟨by rfl, ?_⟩) hS ?_
      rotate_left
      · (intro w' hSw; (try dsimp only at hSw); go_simp; try with_reducible rfl)
      try simp only [Act.put, List.setIfInBounds_toArray, List.set_cons_zero, List.set_cons_succ]
      refine wpAnyH_take (i := 27) (oi := { dst := some 60, op := Op.load 24 (Operand.tmp 7), type := 24, pos := "law.go:37", after := #[{ on := 26, ground := Ground.guard }], guard := some (26, true) }) (v := ?_) rfl (by kernel_rfl) (by kernel_rfl) (by kernel_rfl) (fun _ _ _ h => h) (Or.inl ⟨by rfl, ?_⟩) hS ?_
      rotate_left
      · (intro w' hSw; (try dsimp only at hSw); go_simp; try with_reducible rfl)
      try simp only [Act.put, List.setIfInBounds_toArray, List.set_cons_zero, List.set_cons_succ]
      refine wpAnyH_take (i := 28) (oi := { dst := some 61, op := Op.load 30 (Operand.tmp 9), type := 30, pos := "law.go:37", after := #[{ on := 26, ground := Ground.guard }], guard := some (26, true) }) (v := ?_) rfl (by kernel_rfl) (by kernel_rfl) (by kernel_rfl) (fun _ _ _ h => h) (Or.inl ⟨by rfl, ?_⟩) hS ?_
      rotate_left
      · (intro w' hSw; (try dsimp only at hSw); go_simp; try with_reducible rfl)
      try simp only [Act.put, List.setIfInBounds_toArray, List.set_cons_zero, List.set_cons_succ]
      refine wpAnyH_ready (rs := [29]) (by kernel_rfl) (by simp) ?_
      refine AllReadyH.cons (o := { dst := some 62, op := Op.call { callee := Callee.value (Operand.func 15), args := #[Operand.tmp 61], argTypes := #[30] }, type := 24, pos := "law.go:37", after := #[{ on := 28, ground := Ground.data }, { on := 26, ground := Ground.chain }, { on := 26, ground := Ground.guard }], guard := some (26, true) }) rfl (fun K hK => ?_) AllReadyH.nil
      go_simp
      (go_at_call 15; (with_reducible refine (Form_any _ (hs.below (hS.2.2.2.2.2.2.2.2.2.2.2.2.2.2.2.2) (Nat.le_refl _)) dq).mono ?_); rintro e wn ⟨rF, rfl, hF1, hb1⟩)
      go_wp2_with fail
      refine hK.out _ _ (⟨cellK hb1 hS.1, cellK hb1 hS.2.1, cellK hb1 hS.2.2.1, cellK hb1 hS.2.2.2.1, cellK hb1 hS.2.2.2.2.1, cellK hb1 hS.2.2.2.2.2.1, cellK hb1 hS.2.2.2.2.2.2.1, cellK hb1 hS.2.2.2.2.2.2.2.1, cellK hb1 hS.2.2.2.2.2.2.2.2.1, cellK hb1 hS.2.2.2.2.2.2.2.2.2.1, cellK hb1 hS.2.2.2.2.2.2.2.2.2.2.1, cellK hb1 hS.2.2.2.2.2.2.2.2.2.2.2.1, cellK hb1 hS.2.2.2.2.2.2.2.2.2.2.2.2.1, cellK hb1 hS.2.2.2.2.2.2.2.2.2.2.2.2.2.1, cellK hb1 hS.2.2.2.2.2.2.2.2.2.2.2.2.2.2.1, cellK hb1 hS.2.2.2.2.2.2.2.2.2.2.2.2.2.2.2.1, (hS.2.2.2.2.2.2.2.2.2.2.2.2.2.2.2.2).trans (hb1.mono (hS.2.2.2.2.2.2.2.2.2.2.2.2.2.2.2.2).size)⟩) (fun hS => ?_)
      clear hK K hb1
      try simp only [Act.put, List.setIfInBounds_toArray, List.set_cons_zero, List.set_cons_succ]
      refine wpAnyH_ready (rs := [30]) (by kernel_rfl) (by simp) ?_
      refine AllReadyH.cons (o := { dst := some 63, op := Op.call { callee := Callee.value (Operand.func 14), args := #[Operand.tmp 60, Operand.tmp 62], argTypes := #[24, 24] }, type := 4, pos := "law.go:37", after := #[{ on := 27, ground := Ground.data }, { on := 29, ground := Ground.data }, { on := 29, ground := Ground.chain }, { on := 26, ground := Ground.guard }], guard := some (26, true) }) rfl (fun K hK => ?_) AllReadyH.nil
      go_simp
      (go_at_call 14; (with_reducible refine (Same_true (hq.below ((hS.2.2.2.2.2.2.2.2.2.2.2.2.2.2.2.2)) (Nat.le_refl _)) hF1 rfl sq).mono ?_); rintro e wn ⟨rfl, hb1⟩)
      go_wp2_with fail
      refine hK.out _ _ (⟨cellK hb1 hS.1, cellK hb1 hS.2.1, cellK hb1 hS.2.2.1, cellK hb1 hS.2.2.2.1, cellK hb1 hS.2.2.2.2.1, cellK hb1 hS.2.2.2.2.2.1, cellK hb1 hS.2.2.2.2.2.2.1, cellK hb1 hS.2.2.2.2.2.2.2.1, cellK hb1 hS.2.2.2.2.2.2.2.2.1, cellK hb1 hS.2.2.2.2.2.2.2.2.2.1, cellK hb1 hS.2.2.2.2.2.2.2.2.2.2.1, cellK hb1 hS.2.2.2.2.2.2.2.2.2.2.2.1, cellK hb1 hS.2.2.2.2.2.2.2.2.2.2.2.2.1, cellK hb1 hS.2.2.2.2.2.2.2.2.2.2.2.2.2.1, cellK hb1 hS.2.2.2.2.2.2.2.2.2.2.2.2.2.2.1, cellK hb1 hS.2.2.2.2.2.2.2.2.2.2.2.2.2.2.2.1, (hS.2.2.2.2.2.2.2.2.2.2.2.2.2.2.2.2).trans (hb1.mono (hS.2.2.2.2.2.2.2.2.2.2.2.2.2.2.2.2).size)⟩) (fun hS => ?_)
      clear hK K hb1
      try simp only [Act.put, List.setIfInBounds_toArray, List.set_cons_zero, List.set_cons_succ]
      refine wpAnyH_take (i := 31) (oi := { dst := some 64, op := Op.pick (Operand.tmp 59) (Operand.tmp 63) (Operand.const (Value.bool false)), type := 4, pos := "law.go:37", after := #[{ on := 26, ground := Ground.data }, { on := 30, ground := Ground.data }], guard := none }) (v := ?_) rfl (by kernel_rfl) (by kernel_rfl) (by kernel_rfl) (fun _ _ _ h => h) (Or.inl ⟨by rfl, ?_⟩) hS ?_
      rotate_left
      · (intro w' hSw; (try dsimp only at hSw); go_simp; try with_reducible rfl)
      try simp only [Act.put, List.setIfInBounds_toArray, List.set_cons_zero, List.set_cons_succ]
      refine wpAnyH_take (i := 32) (oi := { dst := some 65, op := Op.move (Operand.tmp 64), type := 4, pos := "law.go:37", after := #[{ on := 31, ground := Ground.data }, { on := 30, ground := Ground.chain }], guard := none }) (v := ?_) rfl (by kernel_rfl) (by kernel_rfl) (by kernel_rfl) (fun _ _ _ h => h) (Or.inl ⟨by rfl, ?_⟩) hS ?_
      rotate_left
      · (intro w' hSw; (try dsimp only at hSw); go_simp; try with_reducible rfl)
      try simp only [Act.put, List.setIfInBounds_toArray, List.set_cons_zero, List.set_cons_succ]
      refine wpAnyH_take (i := 33) (oi := { dst := some 66, op := Op.load 24 (Operand.tmp 8), type := 24, pos := "law.go:37", after := #[{ on := 32, ground := Ground.guard }], guard := some (32, true) }) (v := ?_) rfl (by kernel_rfl) (by kernel_rfl) (by kernel_rfl) (fun _ _ _ h => h) (Or.inl ⟨by rfl, ?_⟩) hS ?_
      rotate_left
      · (intro w' hSw; (try dsimp only at hSw); go_simp; try with_reducible rfl)
      try simp only [Act.put, List.setIfInBounds_toArray, List.set_cons_zero, List.set_cons_succ]
      refine wpAnyH_take (i := 34) (oi := { dst := some 67, op := Op.load 30 (Operand.tmp 10), type := 30, pos := "law.go:37", after := #[{ on := 32, ground := Ground.guard }], guard := some (32, true) }) (v := ?_) rfl (by kernel_rfl) (by kernel_rfl) (by kernel_rfl) (fun _ _ _ h => h) (Or.inl ⟨by rfl, ?_⟩) hS ?_
      rotate_left
      · (intro w' hSw; (try dsimp only at hSw); go_simp; try with_reducible rfl)
      try simp only [Act.put, List.setIfInBounds_toArray, List.set_cons_zero, List.set_cons_succ]
      refine wpAnyH_ready (rs := [35]) (by kernel_rfl) (by simp) ?_
      refine AllReadyH.cons (o := { dst := some 68, op := Op.call { callee := Callee.value (Operand.func 15), args := #[Operand.tmp 67], argTypes := #[30] }, type := 24, pos := "law.go:37", after := #[{ on := 34, ground := Ground.data }, { on := 32, ground := Ground.chain }, { on := 32, ground := Ground.guard }], guard := some (32, true) }) rfl (fun K hK => ?_) AllReadyH.nil
      go_simp
      (go_at_call 15; (with_reducible refine (Form_any _ (ht2.below (hS.2.2.2.2.2.2.2.2.2.2.2.2.2.2.2.2) (Nat.le_refl _)) dr).mono ?_); rintro e wn ⟨rF, rfl, hF1, hb1⟩)
      go_wp2_with fail
      refine hK.out _ _ (⟨cellK hb1 hS.1, cellK hb1 hS.2.1, cellK hb1 hS.2.2.1, cellK hb1 hS.2.2.2.1, cellK hb1 hS.2.2.2.2.1, cellK hb1 hS.2.2.2.2.2.1, cellK hb1 hS.2.2.2.2.2.2.1, cellK hb1 hS.2.2.2.2.2.2.2.1, cellK hb1 hS.2.2.2.2.2.2.2.2.1, cellK hb1 hS.2.2.2.2.2.2.2.2.2.1, cellK hb1 hS.2.2.2.2.2.2.2.2.2.2.1, cellK hb1 hS.2.2.2.2.2.2.2.2.2.2.2.1, cellK hb1 hS.2.2.2.2.2.2.2.2.2.2.2.2.1, cellK hb1 hS.2.2.2.2.2.2.2.2.2.2.2.2.2.1, cellK hb1 hS.2.2.2.2.2.2.2.2.2.2.2.2.2.2.1, cellK hb1 hS.2.2.2.2.2.2.2.2.2.2.2.2.2.2.2.1, (hS.2.2.2.2.2.2.2.2.2.2.2.2.2.2.2.2).trans (hb1.mono (hS.2.2.2.2.2.2.2.2.2.2.2.2.2.2.2.2).size)⟩) (fun hS => ?_)
      clear hK K hb1
      try simp only [Act.put, List.setIfInBounds_toArray, List.set_cons_zero, List.set_cons_succ]
      refine wpAnyH_ready (rs := [36]) (by kernel_rfl) (by simp) ?_
      refine AllReadyH.cons (o := { dst := some 69, op := Op.call { callee := Callee.value (Operand.func 14), args := #[Operand.tmp 66, Operand.tmp 68], argTypes := #[24, 24] }, type := 4, pos := "law.go:37", after := #[{ on := 33, ground := Ground.data }, { on := 35, ground := Ground.data }, { on := 35, ground := Ground.chain }, { on := 32, ground := Ground.guard }], guard := some (32, true) }) rfl (fun K hK => ?_) AllReadyH.nil
      go_simp
      (go_at_call 14; (with_reducible refine (Same_true (hr.below ((hS.2.2.2.2.2.2.2.2.2.2.2.2.2.2.2.2)) (Nat.le_refl _)) hF1 rfl sr).mono ?_); rintro e wn ⟨rfl, hb1⟩)
      go_wp2_with fail
      refine hK.out _ _ (⟨cellK hb1 hS.1, cellK hb1 hS.2.1, cellK hb1 hS.2.2.1, cellK hb1 hS.2.2.2.1, cellK hb1 hS.2.2.2.2.1, cellK hb1 hS.2.2.2.2.2.1, cellK hb1 hS.2.2.2.2.2.2.1, cellK hb1 hS.2.2.2.2.2.2.2.1, cellK hb1 hS.2.2.2.2.2.2.2.2.1, cellK hb1 hS.2.2.2.2.2.2.2.2.2.1, cellK hb1 hS.2.2.2.2.2.2.2.2.2.2.1, cellK hb1 hS.2.2.2.2.2.2.2.2.2.2.2.1, cellK hb1 hS.2.2.2.2.2.2.2.2.2.2.2.2.1, cellK hb1 hS.2.2.2.2.2.2.2.2.2.2.2.2.2.1, cellK hb1 hS.2.2.2.2.2.2.2.2.2.2.2.2.2.2.1, cellK hb1 hS.2.2.2.2.2.2.2.2.2.2.2.2.2.2.2.1, (hS.2.2.2.2.2.2.2.2.2.2.2.2.2.2.2.2).trans (hb1.mono (hS.2.2.2.2.2.2.2.2.2.2.2.2.2.2.2.2).size)⟩) (fun hS => ?_)
      clear hK K hb1
      try simp only [Act.put, List.setIfInBounds_toArray, List.set_cons_zero, List.set_cons_succ]
      refine wpAnyH_take (i := 37) (oi := { dst := some 70, op := Op.pick (Operand.tmp 65) (Operand.tmp 69) (Operand.const (Value.bool false)), type := 4, pos := "law.go:37", after := #[{ on := 32, ground := Ground.data }, { on := 36, ground := Ground.data }], guard := none }) (v := ?_) rfl (by kernel_rfl) (by kernel_rfl) (by kernel_rfl) (fun _ _ _ h => h) (Or.inl ⟨by rfl, ?_⟩) hS ?_
      rotate_left
      · (intro w' hSw; (try dsimp only at hSw); go_simp; try with_reducible rfl)
      try simp only [Act.put, List.setIfInBounds_toArray, List.set_cons_zero, List.set_cons_succ]
      refine wpAnyH_take (i := 38) (oi := { dst := some 71, op := Op.move (Operand.tmp 70), type := 4, pos := "law.go:37", after := #[{ on := 37, ground := Ground.data }, { on := 36, ground := Ground.chain }], guard := none }) (v := ?_) rfl (by kernel_rfl) (by kernel_rfl) (by kernel_rfl) (fun _ _ _ h => h) (Or.inl ⟨by rfl, ?_⟩) hS ?_
      rotate_left
      · (intro w' hSw; (try dsimp only at hSw); go_simp; try with_reducible rfl)
      try simp only [Act.put, List.setIfInBounds_toArray, List.set_cons_zero, List.set_cons_succ]
      refine wpAnyH_take (i := 39) (oi := { dst := some 72, op := Op.load 24 (Operand.tmp 2), type := 24, pos := "law.go:37", after := #[{ on := 38, ground := Ground.guard }], guard := some (38, true) }) (v := ?_) rfl (by kernel_rfl) (by kernel_rfl) (by kernel_rfl) (fun _ _ _ h => h) (Or.inl ⟨by rfl, ?_⟩) hS ?_
      rotate_left
      · (intro w' hSw; (try dsimp only at hSw); go_simp; try with_reducible rfl)
      try simp only [Act.put, List.setIfInBounds_toArray, List.set_cons_zero, List.set_cons_succ]
      refine wpAnyH_take (i := 40) (oi := { dst := some 73, op := Op.load 24 (Operand.tmp 3), type := 24, pos := "law.go:37", after := #[{ on := 38, ground := Ground.guard }], guard := some (38, true) }) (v := ?_) rfl (by kernel_rfl) (by kernel_rfl) (by kernel_rfl) (fun _ _ _ h => h) (Or.inl ⟨by rfl, ?_⟩) hS ?_
      rotate_left
      · (intro w' hSw; (try dsimp only at hSw); go_simp; try with_reducible rfl)
      try simp only [Act.put, List.setIfInBounds_toArray, List.set_cons_zero, List.set_cons_succ]
      refine wpAnyH_take (i := 42) (oi := { dst := some 75, op := Op.load 30 (Operand.tmp 5), type := 30, pos := "law.go:37", after := #[{ on := 38, ground := Ground.guard }], guard := some (38, true) }) (v := ?_) rfl (by kernel_rfl) (by kernel_rfl) (by kernel_rfl) (fun _ _ _ h => h) (Or.inl ⟨by rfl, ?_⟩) hS ?_
      rotate_left
      · (intro w' hSw; (try dsimp only at hSw); go_simp; try with_reducible rfl)
      try simp only [Act.put, List.setIfInBounds_toArray, List.set_cons_zero, List.set_cons_succ]
      refine wpAnyH_take (i := 43) (oi := { dst := some 76, op := Op.load 30 (Operand.tmp 6), type := 30, pos := "law.go:37", after := #[{ on := 38, ground := Ground.guard }], guard := some (38, true) }) (v := ?_) rfl (by kernel_rfl) (by kernel_rfl) (by kernel_rfl) (fun _ _ _ h => h) (Or.inl ⟨by rfl, ?_⟩) hS ?_
      rotate_left
      · (intro w' hSw; (try dsimp only at hSw); go_simp; try with_reducible rfl)
      try simp only [Act.put, List.setIfInBounds_toArray, List.set_cons_zero, List.set_cons_succ]
      refine wpAnyH_ready (rs := [41]) (by kernel_rfl) (by simp) ?_
      refine AllReadyH.cons (o := { dst := some 74, op := Op.call { callee := Callee.value (Operand.func 31), args := #[Operand.tmp 72, Operand.tmp 73], argTypes := #[24, 24] }, type := 24, pos := "law.go:37", after := #[{ on := 39, ground := Ground.data }, { on := 40, ground := Ground.data }, { on := 38, ground := Ground.chain }, { on := 38, ground := Ground.guard }], guard := some (38, true) }) rfl (fun K hK => ?_) AllReadyH.nil
      go_simp
      (go_at_call 31; (with_reducible refine (Gcd_any _ (hXw.below (hS.2.2.2.2.2.2.2.2.2.2.2.2.2.2.2.2) (Nat.le_refl _)) (hYw.below (hS.2.2.2.2.2.2.2.2.2.2.2.2.2.2.2.2) (Nat.le_refl _)) sX sY).mono ?_); rintro e wn ⟨rW, rfl, hW1, hb1⟩)
      go_wp2_with fail
      refine hK.out _ _ (⟨cellK hb1 hS.1, cellK hb1 hS.2.1, cellK hb1 hS.2.2.1, cellK hb1 hS.2.2.2.1, cellK hb1 hS.2.2.2.2.1, cellK hb1 hS.2.2.2.2.2.1, cellK hb1 hS.2.2.2.2.2.2.1, cellK hb1 hS.2.2.2.2.2.2.2.1, cellK hb1 hS.2.2.2.2.2.2.2.2.1, cellK hb1 hS.2.2.2.2.2.2.2.2.2.1, cellK hb1 hS.2.2.2.2.2.2.2.2.2.2.1, cellK hb1 hS.2.2.2.2.2.2.2.2.2.2.2.1, cellK hb1 hS.2.2.2.2.2.2.2.2.2.2.2.2.1, cellK hb1 hS.2.2.2.2.2.2.2.2.2.2.2.2.2.1, cellK hb1 hS.2.2.2.2.2.2.2.2.2.2.2.2.2.2.1, cellK hb1 hS.2.2.2.2.2.2.2.2.2.2.2.2.2.2.2.1, (hS.2.2.2.2.2.2.2.2.2.2.2.2.2.2.2.2).trans (hb1.mono (hS.2.2.2.2.2.2.2.2.2.2.2.2.2.2.2.2).size)⟩) (fun hS => ?_)
      clear hK K hb1
      try simp only [Act.put, List.setIfInBounds_toArray, List.set_cons_zero, List.set_cons_succ]
      refine wpAnyH_ready (rs := [44]) (by kernel_rfl) (by simp) ?_
      refine AllReadyH.cons (o := { dst := some 77, op := Op.call { callee := Callee.value (Operand.func 32), args := #[Operand.tmp 75, Operand.tmp 76], argTypes := #[30, 30] }, type := 30, pos := "law.go:37", after := #[{ on := 42, ground := Ground.data }, { on := 43, ground := Ground.data }, { on := 41, ground := Ground.chain }, { on := 38, ground := Ground.guard }], guard := some (38, true) }) rfl (fun K hK => ?_) AllReadyH.nil
      go_simp
      (go_at_call 32; (with_reducible refine (RGcd_any _ (ha.below (hS.2.2.2.2.2.2.2.2.2.2.2.2.2.2.2.2) (Nat.le_refl _)) (hb.below (hS.2.2.2.2.2.2.2.2.2.2.2.2.2.2.2.2) (Nat.le_refl _)) dX dY).mono ?_); rintro e wn ⟨rR, rfl, hR1, hb1⟩; have hW2 := hW1.below hb1 (Nat.le_refl _))
      go_wp2_with fail
      refine hK.out _ _ (⟨cellK hb1 hS.1, cellK hb1 hS.2.1, cellK hb1 hS.2.2.1, cellK hb1 hS.2.2.2.1, cellK hb1 hS.2.2.2.2.1, cellK hb1 hS.2.2.2.2.2.1, cellK hb1 hS.2.2.2.2.2.2.1, cellK hb1 hS.2.2.2.2.2.2.2.1, cellK hb1 hS.2.2.2.2.2.2.2.2.1, cellK hb1 hS.2.2.2.2.2.2.2.2.2.1, cellK hb1 hS.2.2.2.2.2.2.2.2.2.2.1, cellK hb1 hS.2.2.2.2.2.2.2.2.2.2.2.1, cellK hb1 hS.2.2.2.2.2.2.2.2.2.2.2.2.1, cellK hb1 hS.2.2.2.2.2.2.2.2.2.2.2.2.2.1, cellK hb1 hS.2.2.2.2.2.2.2.2.2.2.2.2.2.2.1, cellK hb1 hS.2.2.2.2.2.2.2.2.2.2.2.2.2.2.2.1, (hS.2.2.2.2.2.2.2.2.2.2.2.2.2.2.2.2).trans (hb1.mono (hS.2.2.2.2.2.2.2.2.2.2.2.2.2.2.2.2).size)⟩) (fun hS => ?_)
      clear hK K hb1
      try simp only [Act.put, List.setIfInBounds_toArray, List.set_cons_zero, List.set_cons_succ]
      refine wpAnyH_ready (rs := [45]) (by kernel_rfl) (by simp) ?_
      refine AllReadyH.cons (o := { dst := some 78, op := Op.call { callee := Callee.value (Operand.func 15), args := #[Operand.tmp 77], argTypes := #[30] }, type := 24, pos := "law.go:37", after := #[{ on := 44, ground := Ground.data }, { on := 44, ground := Ground.chain }, { on := 38, ground := Ground.guard }], guard := some (38, true) }) rfl (fun K hK => ?_) AllReadyH.nil
      go_simp
      (go_at_call 15; (with_reducible refine (Form_any _ hR1 dG).mono ?_); rintro e wn ⟨rF, rfl, hF1, hb1⟩; have hW3 := hW2.below hb1 (Nat.le_refl _))
      go_wp2_with fail
      refine hK.out _ _ (⟨cellK hb1 hS.1, cellK hb1 hS.2.1, cellK hb1 hS.2.2.1, cellK hb1 hS.2.2.2.1, cellK hb1 hS.2.2.2.2.1, cellK hb1 hS.2.2.2.2.2.1, cellK hb1 hS.2.2.2.2.2.2.1, cellK hb1 hS.2.2.2.2.2.2.2.1, cellK hb1 hS.2.2.2.2.2.2.2.2.1, cellK hb1 hS.2.2.2.2.2.2.2.2.2.1, cellK hb1 hS.2.2.2.2.2.2.2.2.2.2.1, cellK hb1 hS.2.2.2.2.2.2.2.2.2.2.2.1, cellK hb1 hS.2.2.2.2.2.2.2.2.2.2.2.2.1, cellK hb1 hS.2.2.2.2.2.2.2.2.2.2.2.2.2.1, cellK hb1 hS.2.2.2.2.2.2.2.2.2.2.2.2.2.2.1, cellK hb1 hS.2.2.2.2.2.2.2.2.2.2.2.2.2.2.2.1, (hS.2.2.2.2.2.2.2.2.2.2.2.2.2.2.2.2).trans (hb1.mono (hS.2.2.2.2.2.2.2.2.2.2.2.2.2.2.2.2).size)⟩) (fun hS => ?_)
      clear hK K hb1
      try simp only [Act.put, List.setIfInBounds_toArray, List.set_cons_zero, List.set_cons_succ]
      refine wpAnyH_ready (rs := [46]) (by kernel_rfl) (by simp) ?_
      refine AllReadyH.cons (o := { dst := some 79, op := Op.call { callee := Callee.value (Operand.func 14), args := #[Operand.tmp 74, Operand.tmp 78], argTypes := #[24, 24] }, type := 4, pos := "law.go:37", after := #[{ on := 41, ground := Ground.data }, { on := 45, ground := Ground.data }, { on := 45, ground := Ground.chain }, { on := 38, ground := Ground.guard }], guard := some (38, true) }) rfl (fun K hK => ?_) AllReadyH.nil
      go_simp
      (go_at_call 14; (with_reducible refine (Same_true hW3 hF1 rfl sG).mono ?_); rintro e wn ⟨rfl, hb1⟩)
      go_wp2_with fail
      refine hK.out _ _ (⟨cellK hb1 hS.1, cellK hb1 hS.2.1, cellK hb1 hS.2.2.1, cellK hb1 hS.2.2.2.1, cellK hb1 hS.2.2.2.2.1, cellK hb1 hS.2.2.2.2.2.1, cellK hb1 hS.2.2.2.2.2.2.1, cellK hb1 hS.2.2.2.2.2.2.2.1, cellK hb1 hS.2.2.2.2.2.2.2.2.1, cellK hb1 hS.2.2.2.2.2.2.2.2.2.1, cellK hb1 hS.2.2.2.2.2.2.2.2.2.2.1, cellK hb1 hS.2.2.2.2.2.2.2.2.2.2.2.1, cellK hb1 hS.2.2.2.2.2.2.2.2.2.2.2.2.1, cellK hb1 hS.2.2.2.2.2.2.2.2.2.2.2.2.2.1, cellK hb1 hS.2.2.2.2.2.2.2.2.2.2.2.2.2.2.1, cellK hb1 hS.2.2.2.2.2.2.2.2.2.2.2.2.2.2.2.1, (hS.2.2.2.2.2.2.2.2.2.2.2.2.2.2.2.2).trans (hb1.mono (hS.2.2.2.2.2.2.2.2.2.2.2.2.2.2.2.2).size)⟩) (fun hS => ?_)
      clear hK K hb1
      try simp only [Act.put, List.setIfInBounds_toArray, List.set_cons_zero, List.set_cons_succ]
      refine wpAnyH_take (i := 47) (oi := { dst := some 80, op := Op.pick (Operand.tmp 71) (Operand.tmp 79) (Operand.const (Value.bool false)), type := 4, pos := "law.go:37", after := #[{ on := 38, ground := Ground.data }, { on := 46, ground := Ground.data }], guard := none }) (v := ?_) rfl (by kernel_rfl) (by kernel_rfl) (by kernel_rfl) (fun _ _ _ h => h) (Or.inl ⟨by rfl, ?_⟩) hS ?_
      rotate_left
      · (intro w' hSw; (try dsimp only at hSw); go_simp; try with_reducible rfl)
      try simp only [Act.put, List.setIfInBounds_toArray, List.set_cons_zero, List.set_cons_succ]
      refine wpAnyH_take (i := 48) (oi := { dst := some 81, op := Op.move (Operand.tmp 80), type := 4, pos := "law.go:37", after := #[{ on := 47, ground := Ground.data }, { on := 46, ground := Ground.chain }], guard := none }) (v := ?_) rfl (by kernel_rfl) (by kernel_rfl) (by kernel_rfl) (fun _ _ _ h => h) (Or.inl ⟨by rfl, ?_⟩) hS ?_
      rotate_left
      · (intro w' hSw; (try dsimp only at hSw); go_simp; try with_reducible rfl)
      try simp only [Act.put, List.setIfInBounds_toArray, List.set_cons_zero, List.set_cons_succ]
      refine wpAnyH_take (i := 49) (oi := { dst := some 82, op := Op.load 24 (Operand.tmp 2), type := 24, pos := "law.go:37", after := #[{ on := 48, ground := Ground.guard }], guard := some (48, true) }) (v := ?_) rfl (by kernel_rfl) (by kernel_rfl) (by kernel_rfl) (fun _ _ _ h => h) (Or.inl ⟨by rfl, ?_⟩) hS ?_
      rotate_left
      · (intro w' hSw; (try dsimp only at hSw); go_simp; try with_reducible rfl)
      try simp only [Act.put, List.setIfInBounds_toArray, List.set_cons_zero, List.set_cons_succ]
      refine wpAnyH_take (i := 50) (oi := { dst := some 83, op := Op.load 24 (Operand.tmp 3), type := 24, pos := "law.go:37", after := #[{ on := 48, ground := Ground.guard }], guard := some (48, true) }) (v := ?_) rfl (by kernel_rfl) (by kernel_rfl) (by kernel_rfl) (fun _ _ _ h => h) (Or.inl ⟨by rfl, ?_⟩) hS ?_
      rotate_left
      · (intro w' hSw; (try dsimp only at hSw); go_simp; try with_reducible rfl)
      try simp only [Act.put, List.setIfInBounds_toArray, List.set_cons_zero, List.set_cons_succ]
      refine wpAnyH_take (i := 52) (oi := { dst := some 85, op := Op.load 30 (Operand.tmp 5), type := 30, pos := "law.go:37", after := #[{ on := 48, ground := Ground.guard }], guard := some (48, true) }) (v := ?_) rfl (by kernel_rfl) (by kernel_rfl) (by kernel_rfl) (fun _ _ _ h => h) (Or.inl ⟨by rfl, ?_⟩) hS ?_
      rotate_left
      · (intro w' hSw; (try dsimp only at hSw); go_simp; try with_reducible rfl)
      try simp only [Act.put, List.setIfInBounds_toArray, List.set_cons_zero, List.set_cons_succ]
      refine wpAnyH_take (i := 53) (oi := { dst := some 86, op := Op.load 30 (Operand.tmp 6), type := 30, pos := "law.go:37", after := #[{ on := 48, ground := Ground.guard }], guard := some (48, true) }) (v := ?_) rfl (by kernel_rfl) (by kernel_rfl) (by kernel_rfl) (fun _ _ _ h => h) (Or.inl ⟨by rfl, ?_⟩) hS ?_
      rotate_left
      · (intro w' hSw; (try dsimp only at hSw); go_simp; try with_reducible rfl)
      try simp only [Act.put, List.setIfInBounds_toArray, List.set_cons_zero, List.set_cons_succ]
      refine wpAnyH_ready (rs := [51]) (by kernel_rfl) (by simp) ?_
      refine AllReadyH.cons (o := { dst := some 84, op := Op.call { callee := Callee.value (Operand.func 33), args := #[Operand.tmp 82, Operand.tmp 83], argTypes := #[24, 24] }, type := 3, pos := "law.go:37", after := #[{ on := 49, ground := Ground.data }, { on := 50, ground := Ground.data }, { on := 48, ground := Ground.chain }, { on := 48, ground := Ground.guard }], guard := some (48, true) }) rfl (fun K hK => ?_) AllReadyH.nil
      go_simp
      (go_at_call 33; (with_reducible refine (Cmp_at (hXw.below (hS.2.2.2.2.2.2.2.2.2.2.2.2.2.2.2.2) (Nat.le_refl _)) (hYw.below (hS.2.2.2.2.2.2.2.2.2.2.2.2.2.2.2.2) (Nat.le_refl _)) sX sY (Below.refl _ _) hord.out).mono ?_); rintro e wn ⟨rfl, hb1⟩)
      go_wp2_with fail
      refine hK.out _ _ (⟨cellK hb1 hS.1, cellK hb1 hS.2.1, cellK hb1 hS.2.2.1, cellK hb1 hS.2.2.2.1, cellK hb1 hS.2.2.2.2.1, cellK hb1 hS.2.2.2.2.2.1, cellK hb1 hS.2.2.2.2.2.2.1, cellK hb1 hS.2.2.2.2.2.2.2.1, cellK hb1 hS.2.2.2.2.2.2.2.2.1, cellK hb1 hS.2.2.2.2.2.2.2.2.2.1, cellK hb1 hS.2.2.2.2.2.2.2.2.2.2.1, cellK hb1 hS.2.2.2.2.2.2.2.2.2.2.2.1, cellK hb1 hS.2.2.2.2.2.2.2.2.2.2.2.2.1, cellK hb1 hS.2.2.2.2.2.2.2.2.2.2.2.2.2.1, cellK hb1 hS.2.2.2.2.2.2.2.2.2.2.2.2.2.2.1, cellK hb1 hS.2.2.2.2.2.2.2.2.2.2.2.2.2.2.2.1, (hS.2.2.2.2.2.2.2.2.2.2.2.2.2.2.2.2).trans (hb1.mono (hS.2.2.2.2.2.2.2.2.2.2.2.2.2.2.2.2).size)⟩) (fun hS => ?_)
      clear hK K hb1
      try simp only [Act.put, List.setIfInBounds_toArray, List.set_cons_zero, List.set_cons_succ]
      refine wpAnyH_ready (rs := [54]) (by kernel_rfl) (by simp) ?_
      refine AllReadyH.cons (o := { dst := some 87, op := Op.call { callee := Callee.value (Operand.func 34), args := #[Operand.tmp 85, Operand.tmp 86], argTypes := #[30, 30] }, type := 3, pos := "law.go:37", after := #[{ on := 52, ground := Ground.data }, { on := 53, ground := Ground.data }, { on := 51, ground := Ground.chain }, { on := 48, ground := Ground.guard }], guard := some (48, true) }) rfl (fun K hK => ?_) AllReadyH.nil
      go_simp
      (go_at_call 34; (with_reducible refine (RCmp_at (ha.below (hS.2.2.2.2.2.2.2.2.2.2.2.2.2.2.2.2) (Nat.le_refl _)) (hb.below (hS.2.2.2.2.2.2.2.2.2.2.2.2.2.2.2.2) (Nat.le_refl _)) dX dY (Below.refl _ _) hord.out).mono ?_); rintro e wn ⟨rfl, hb1⟩)
      go_wp2_with fail
      refine hK.out _ _ (⟨cellK hb1 hS.1, cellK hb1 hS.2.1, cellK hb1 hS.2.2.1, cellK hb1 hS.2.2.2.1, cellK hb1 hS.2.2.2.2.1, cellK hb1 hS.2.2.2.2.2.1, cellK hb1 hS.2.2.2.2.2.2.1, cellK hb1 hS.2.2.2.2.2.2.2.1, cellK hb1 hS.2.2.2.2.2.2.2.2.1, cellK hb1 hS.2.2.2.2.2.2.2.2.2.1, cellK hb1 hS.2.2.2.2.2.2.2.2.2.2.1, cellK hb1 hS.2.2.2.2.2.2.2.2.2.2.2.1, cellK hb1 hS.2.2.2.2.2.2.2.2.2.2.2.2.1, cellK hb1 hS.2.2.2.2.2.2.2.2.2.2.2.2.2.1, cellK hb1 hS.2.2.2.2.2.2.2.2.2.2.2.2.2.2.1, cellK hb1 hS.2.2.2.2.2.2.2.2.2.2.2.2.2.2.2.1, (hS.2.2.2.2.2.2.2.2.2.2.2.2.2.2.2.2).trans (hb1.mono (hS.2.2.2.2.2.2.2.2.2.2.2.2.2.2.2.2).size)⟩) (fun hS => ?_)
      clear hK K hb1
      try simp only [Act.put, List.setIfInBounds_toArray, List.set_cons_zero, List.set_cons_succ]
      refine wpAnyH_take (i := 55) (oi := { dst := some 88, op := Op.binOp BinOp.eql 3 (Operand.tmp 84) (Operand.tmp 87) 3, type := 4, pos := "law.go:37", after := #[{ on := 51, ground := Ground.data }, { on := 54, ground := Ground.data }, { on := 48, ground := Ground.guard }], guard := some (48, true) }) (v := ?_) rfl (by kernel_rfl) (by kernel_rfl) (by kernel_rfl) (fun _ _ _ h => h) (Or.inl ⟨by rfl, ?_⟩) hS ?_
      rotate_left
      · (intro w' hSw; (try dsimp only at hSw); go_simp; try with_reducible rfl)
      try simp only [Act.put, List.setIfInBounds_toArray, List.set_cons_zero, List.set_cons_succ]
      refine wpAnyH_take (i := 56) (oi := { dst := some 89, op := Op.pick (Operand.tmp 81) (Operand.tmp 88) (Operand.const (Value.bool false)), type := 4, pos := "law.go:37", after := #[{ on := 48, ground := Ground.data }, { on := 55, ground := Ground.data }], guard := none }) (v := ?_) rfl (by kernel_rfl) (by kernel_rfl) (by kernel_rfl) (fun _ _ _ h => h) (Or.inl ⟨by rfl, ?_⟩) hS ?_
      rotate_left
      · (intro w' hSw; (try dsimp only at hSw); go_simp; try with_reducible rfl)
      try simp only [Act.put, List.setIfInBounds_toArray, List.set_cons_zero, List.set_cons_succ]
      refine wpAnyH_take (i := 57) (oi := { dst := some 90, op := Op.move (Operand.tmp 89), type := 4, pos := "law.go:37", after := #[{ on := 56, ground := Ground.data }, { on := 54, ground := Ground.chain }], guard := none }) (v := ?_) rfl (by kernel_rfl) (by kernel_rfl) (by kernel_rfl) (fun _ _ _ h => h) (Or.inl ⟨by rfl, ?_⟩) hS ?_
      rotate_left
      · (intro w' hSw; (try dsimp only at hSw); go_simp; try with_reducible rfl)
      try simp only [Act.put, List.setIfInBounds_toArray, List.set_cons_zero, List.set_cons_succ]
      refine wpAnyH_take (i := 58) (oi := { dst := some 91, op := Op.load 24 (Operand.tmp 2), type := 24, pos := "law.go:37", after := #[{ on := 57, ground := Ground.guard }], guard := some (57, true) }) (v := ?_) rfl (by kernel_rfl) (by kernel_rfl) (by kernel_rfl) (fun _ _ _ h => h) (Or.inl ⟨by rfl, ?_⟩) hS ?_
      rotate_left
      · (intro w' hSw; (try dsimp only at hSw); go_simp; try with_reducible rfl)
      try simp only [Act.put, List.setIfInBounds_toArray, List.set_cons_zero, List.set_cons_succ]
      refine wpAnyH_take (i := 60) (oi := { dst := some 93, op := Op.load 30 (Operand.tmp 5), type := 30, pos := "law.go:37", after := #[{ on := 57, ground := Ground.guard }], guard := some (57, true) }) (v := ?_) rfl (by kernel_rfl) (by kernel_rfl) (by kernel_rfl) (fun _ _ _ h => h) (Or.inl ⟨by rfl, ?_⟩) hS ?_
      rotate_left
      · (intro w' hSw; (try dsimp only at hSw); go_simp; try with_reducible rfl)
      try simp only [Act.put, List.setIfInBounds_toArray, List.set_cons_zero, List.set_cons_succ]
      refine wpAnyH_ready (rs := [59]) (by kernel_rfl) (by simp) ?_
      refine AllReadyH.cons (o := { dst := some 92, op := Op.call { callee := Callee.value (Operand.func 35), args := #[Operand.tmp 91], argTypes := #[24] }, type := 9, pos := "law.go:37", after := #[{ on := 58, ground := Ground.data }, { on := 57, ground := Ground.chain }, { on := 57, ground := Ground.guard }], guard := some (57, true) }) rfl (fun K hK => ?_) AllReadyH.nil
      go_simp
      (go_at_call 35; (with_reducible refine (Text_any _ (hXw.below (hS.2.2.2.2.2.2.2.2.2.2.2.2.2.2.2.2) (Nat.le_refl _)) sX (htw.atBelow (hS.2.2.2.2.2.2.2.2.2.2.2.2.2.2.2.2) (Nat.le_refl _))).mono ?_); rintro e wn ⟨rfl, hb1⟩)
      go_wp2_with fail
      refine hK.out _ _ (⟨cellK hb1 hS.1, cellK hb1 hS.2.1, cellK hb1 hS.2.2.1, cellK hb1 hS.2.2.2.1, cellK hb1 hS.2.2.2.2.1, cellK hb1 hS.2.2.2.2.2.1, cellK hb1 hS.2.2.2.2.2.2.1, cellK hb1 hS.2.2.2.2.2.2.2.1, cellK hb1 hS.2.2.2.2.2.2.2.2.1, cellK hb1 hS.2.2.2.2.2.2.2.2.2.1, cellK hb1 hS.2.2.2.2.2.2.2.2.2.2.1, cellK hb1 hS.2.2.2.2.2.2.2.2.2.2.2.1, cellK hb1 hS.2.2.2.2.2.2.2.2.2.2.2.2.1, cellK hb1 hS.2.2.2.2.2.2.2.2.2.2.2.2.2.1, cellK hb1 hS.2.2.2.2.2.2.2.2.2.2.2.2.2.2.1, cellK hb1 hS.2.2.2.2.2.2.2.2.2.2.2.2.2.2.2.1, (hS.2.2.2.2.2.2.2.2.2.2.2.2.2.2.2.2).trans (hb1.mono (hS.2.2.2.2.2.2.2.2.2.2.2.2.2.2.2.2).size)⟩) (fun hS => ?_)
      clear hK K hb1
      try simp only [Act.put, List.setIfInBounds_toArray, List.set_cons_zero, List.set_cons_succ]
      refine wpAnyH_ready (rs := [61]) (by kernel_rfl) (by simp) ?_
      refine AllReadyH.cons (o := { dst := some 94, op := Op.call { callee := Callee.value (Operand.func 36), args := #[Operand.tmp 93], argTypes := #[30] }, type := 9, pos := "law.go:37", after := #[{ on := 60, ground := Ground.data }, { on := 59, ground := Ground.chain }, { on := 57, ground := Ground.guard }], guard := some (57, true) }) rfl (fun K hK => ?_) AllReadyH.nil
      go_simp
      (go_at_call 36; (with_reducible refine (RText_any _ (ha.below (hS.2.2.2.2.2.2.2.2.2.2.2.2.2.2.2.2) (Nat.le_refl _)) dX).mono ?_); rintro e wn ⟨rfl, hb1⟩)
      go_wp2_with fail
      refine hK.out _ _ (⟨cellK hb1 hS.1, cellK hb1 hS.2.1, cellK hb1 hS.2.2.1, cellK hb1 hS.2.2.2.1, cellK hb1 hS.2.2.2.2.1, cellK hb1 hS.2.2.2.2.2.1, cellK hb1 hS.2.2.2.2.2.2.1, cellK hb1 hS.2.2.2.2.2.2.2.1, cellK hb1 hS.2.2.2.2.2.2.2.2.1, cellK hb1 hS.2.2.2.2.2.2.2.2.2.1, cellK hb1 hS.2.2.2.2.2.2.2.2.2.2.1, cellK hb1 hS.2.2.2.2.2.2.2.2.2.2.2.1, cellK hb1 hS.2.2.2.2.2.2.2.2.2.2.2.2.1, cellK hb1 hS.2.2.2.2.2.2.2.2.2.2.2.2.2.1, cellK hb1 hS.2.2.2.2.2.2.2.2.2.2.2.2.2.2.1, cellK hb1 hS.2.2.2.2.2.2.2.2.2.2.2.2.2.2.2.1, (hS.2.2.2.2.2.2.2.2.2.2.2.2.2.2.2.2).trans (hb1.mono (hS.2.2.2.2.2.2.2.2.2.2.2.2.2.2.2.2).size)⟩) (fun hS => ?_)
      clear hK K hb1
      try simp only [Act.put, List.setIfInBounds_toArray, List.set_cons_zero, List.set_cons_succ]
      refine wpAnyH_take (i := 62) (oi := { dst := some 95, op := Op.binOp BinOp.eql 9 (Operand.tmp 92) (Operand.tmp 94) 9, type := 4, pos := "law.go:37", after := #[{ on := 59, ground := Ground.data }, { on := 61, ground := Ground.data }, { on := 57, ground := Ground.guard }], guard := some (57, true) }) (v := ?_) rfl (by kernel_rfl) (by kernel_rfl) (by kernel_rfl) (fun _ _ _ h => h) (Or.inl ⟨by rfl, ?_⟩) hS ?_
      rotate_left
      · (intro w' hSw; (try dsimp only at hSw); go_simp; try with_reducible rfl)
      try simp only [Act.put, List.setIfInBounds_toArray, List.set_cons_zero, List.set_cons_succ]
      refine wpAnyH_take (i := 63) (oi := { dst := some 96, op := Op.pick (Operand.tmp 90) (Operand.tmp 95) (Operand.const (Value.bool false)), type := 4, pos := "law.go:37", after := #[{ on := 57, ground := Ground.data }, { on := 62, ground := Ground.data }], guard := none }) (v := ?_) rfl (by kernel_rfl) (by kernel_rfl) (by kernel_rfl) (fun _ _ _ h => h) (Or.inl ⟨by rfl, ?_⟩) hS ?_
      rotate_left
      · (intro w' hSw; (try dsimp only at hSw); go_simp; try with_reducible rfl)
      try simp only [Act.put, List.setIfInBounds_toArray, List.set_cons_zero, List.set_cons_succ]
      refine wpAnyH_take (i := 64) (oi := { dst := some 4, op := Op.assign (Operand.tmp 96), type := 4, pos := "law.go:37", after := ([{ on := 63, ground := Ground.data }, { on := 61, ground := Ground.chain }, { on := 0, ground := Ground.phase }, { on := 1, ground := Ground.phase }, { on := 2, ground := Ground.phase }, { on := 3, ground := Ground.phase }, { on := 4, ground := Ground.phase }, { on := 5, ground := Ground.phase }, { on := 6, ground := Ground.phase }, { on := 7, ground := Ground.phase }, { on := 8, ground := Ground.phase }, { on := 9, ground := Ground.phase }, { on := 10, ground := Ground.phase }, { on := 11, ground := Ground.phase }, { on := 12, ground := Ground.phase }, { on := 13, ground := Ground.phase }, { on := 14, ground := Ground.phase }, { on := 15, ground := Ground.phase }, { on := 16, ground := Ground.phase }, { on := 17, ground := Ground.phase }, { on := 18, ground := Ground.phase }, { on := 19, ground := Ground.phase }, { on := 20, ground := Ground.phase }, { on := 21, ground := Ground.phase }, { on := 22, ground := Ground.phase }, { on := 23, ground := Ground.phase }, { on := 24, ground := Ground.phase }, { on := 25, ground := Ground.phase }, { on := 26, ground := Ground.phase }, { on := 27, ground := Ground.phase }, { on := 28, ground := Ground.phase }, { on := 29, ground := Ground.phase }, { on := 30, ground := Ground.phase }].append [{ on := 31, ground := Ground.phase }, { on := 32, ground := Ground.phase }, { on := 33, ground := Ground.phase }, { on := 34, ground := Ground.phase }, { on := 35, ground := Ground.phase }, { on := 36, ground := Ground.phase }, { on := 37, ground := Ground.phase }, { on := 38, ground := Ground.phase }, { on := 39, ground := Ground.phase }, { on := 40, ground := Ground.phase }, { on := 41, ground := Ground.phase }, { on := 42, ground := Ground.phase }, { on := 43, ground := Ground.phase }, { on := 44, ground := Ground.phase }, { on := 45, ground := Ground.phase }, { on := 46, ground := Ground.phase }, { on := 47, ground := Ground.phase }, { on := 48, ground := Ground.phase }, { on := 49, ground := Ground.phase }, { on := 50, ground := Ground.phase }, { on := 51, ground := Ground.phase }, { on := 52, ground := Ground.phase }, { on := 53, ground := Ground.phase }, { on := 54, ground := Ground.phase }, { on := 55, ground := Ground.phase }, { on := 56, ground := Ground.phase }, { on := 57, ground := Ground.phase }, { on := 58, ground := Ground.phase }, { on := 59, ground := Ground.phase }, { on := 60, ground := Ground.phase }, { on := 61, ground := Ground.phase }, { on := 62, ground := Ground.phase }, { on := 63, ground := Ground.phase }]).toArray, guard := none }) (v := ?_) rfl (by kernel_rfl) (by kernel_rfl) (by kernel_rfl) (fun _ _ _ h => h) (Or.inl ⟨by rfl, ?_⟩) hS ?_
      rotate_left
      · (intro w' hSw; (try dsimp only at hSw); go_simp; try with_reducible rfl)
      try simp only [Act.put, List.setIfInBounds_toArray, List.set_cons_zero, List.set_cons_succ]
      refine wpAnyH_done (by kernel_rfl) ?_ _
      have hfin := sb.trans ((hS.2.2.2.2.2.2.2.2.2.2.2.2.2.2.2.2).mono sb.size)
      clear hS x0 x1 y0 y1 ax0 ax1 bx0 bx1 qx0 qx1 rx0 rx1 sx0 sx1 tx0 tx1
      go_wp2_with fail
      go_ret
      exact ⟨rfl, hfin⟩
end Go.Proofs.YthpibilefdmemaaDoor
