/- frac's Floor, Text: by their contracts. -/
import Derived.Test.YthpibilefdmemaaDoorFrac5
namespace Go.Proofs.YthpibilefdmemaaDoor
open Go.RowKit

/-- What Floor leaves. -/
def FloorPost (w : World) (q : Rat) (e : Ending) (w' : World) : Prop := ∃ r, e = .returned (.tuple #[r, .bool (decide (q.den = 1))]) ∧ IntV w' r q.floor ∧ Below w.heap.size w w'
theorem rest_zero (q : Rat) : q.num % (q.den : Int) = 0 ↔ q.den = 1 := by
  constructor
  · intro h
    have h1 : (q.den : Int) ∣ q.num := Int.dvd_of_emod_eq_zero h
    have h2 : q.den ∣ q.num.natAbs := Int.ofNat_dvd_left.1 h1
    have h3 := q.reduced
    have h4 : Nat.gcd q.num.natAbs q.den = q.den := Nat.gcd_eq_right h2
    rw [← h4]; exact h3
  · intro h
    rw [h]; simp
theorem len_eq_zero {z : Int} : len z = 0 ↔ z = 0 := by
  constructor
  · intro h
    have := (dg_eq_nil BB2).1 (List.length_eq_zero_iff.1 h)
    omega
  · rintro rfl; rfl
theorem add_txt (w : World) (a b : List UInt8) (h : a.length + b.length ≤ 9223372036854775807) : (Op.stringOp .add ⟨a.toArray⟩ ⟨b.toArray⟩).run Tryd.prog w = .ok (.string ⟨(a ++ b).toArray⟩) w := by
  rw [run_string_add_sum w ⟨a.toArray⟩ ⟨b.toArray⟩ (by simpa [ByteArray.size] using h)]
  congr 2
/-- A fraction's text. -/
def decQ (q : Rat) : List UInt8 := decZ q.num ++ if q.den = 1 then [] else 47 :: decZ (q.den : Int)
def FTextPost (w : World) (q : Rat) (e : Ending) (w' : World) : Prop := e = .returned (.string ⟨(decQ q).toArray⟩) ∧ Below w.heap.size w w'

set_option maxRecDepth 100000 in
set_option maxHeartbeats 6400000 in
theorem FFloor_any {p : Rat} {u : Value} (w : World) (hx : FracV w u p) (hp : Qz p) : Calls Tryd.prog 51 #[u] w (FloorPost w p) := by
  generalize hP : FloorPost w p = Post
  have HP := hide hP
  clear hP
  obtain ⟨sx, sd, su, -, -, -, -, -, -⟩ := Qz.sm hp hp
  have HF : Hid (p.num / (p.den : Int) = p.floor) := hide (by rw [Rat.floor_def])
  have HZ : Hid (decide (len (p.num % (p.den : Int)) = 0) = decide (p.den = 1)) := hide (by rw [decide_eq_decide, len_eq_zero, rest_zero])
  have hd0 : ¬ (p.den : Int) = 0 := by have := p.den_nz; omega
  obtain ⟨xn, xa, xl, xk, xm, xb, xi, xj, rfl, hx1, hx2⟩ := FracV.parts hx
  obtain ⟨W, hW⟩ : ∃ W, ((w.alloc (.cells #[.bool xn, .slice xa xl xk, .bool xm, .slice xb xi xj] 58)).alloc (.cells #[.bool false, .slice none 0 0] 24)) = W := ⟨_, rfl⟩
  have bx : Blk W w.heap.size 58 #[.bool xn, .slice xa xl xk, .bool xm, .slice xb xi xj] := by rw [← hW]; exact (Blk.new w _ _).alloc _
  have bR : Blk W (w.heap.size + 1) 24 #[.bool false, .slice none 0 0] := by rw [← hW]; exact Blk.new_at _ _ _ (by simp)
  have sb : Below w.heap.size w W := by rw [← hW]; exact ((Below.refl w.heap.size w).alloc (Nat.le_refl _) _).alloc (by simp) _
  obtain ⟨cx0, cx1, cx2, cx3, -⟩ := bx.c4
  have hK : Kp w 24 (w.heap.size + 1) W := ⟨sb, by omega, _, _, _, _, bR⟩
  have HW := hide hW
  clear hW bx bR
  go_enter Tryd.func51, Tryd.ntmps51
  go_upto_region 1 with (fail)
  rw [HW.out]
  clear HW
  replace hd0 := hide hd0
  have hS1 : W.cell? ⟨w.heap.size, 0, none⟩ = some (.bool xn) ∧ W.cell? ⟨w.heap.size, 1, none⟩ = some (.slice xa xl xk) ∧ W.cell? ⟨w.heap.size, 2, none⟩ = some (.bool xm) ∧ W.cell? ⟨w.heap.size, 3, none⟩ = some (.slice xb xi xj) ∧ Kp w 24 (w.heap.size + 1) W := ⟨cx0, cx1, cx2, cx3, hK⟩
  have hWs := hS1.2.2.2.2.bel.size
  have hWR : w.heap.size + 1 < W.heap.size := by obtain ⟨_, _, _, _, h⟩ := hK.blk; exact h.lt
  go_cut [4, 5] from 6 to 13 (fun v5 v6 wc => ∃ g5 g6 sn sa sl sk tn ta tl tk, v5 = .pointer (some ⟨g5, 0, none⟩) ∧ v6 = .pointer (some ⟨g6, 0, none⟩) ∧ w.heap.size + 1 < g5 ∧ w.heap.size + 1 < g6 ∧ Blk wc g5 24 #[.bool sn, .slice sa sl sk] ∧ Blk wc g6 24 #[.bool tn, .slice ta tl tk] ∧ IntV wc (.agg #[.bool sn, .slice sa sl sk]) (p.num / (p.den : Int)) ∧ IntV wc (.agg #[.bool tn, .slice ta tl tk]) (p.num % (p.den : Int)) ∧ wc.cell? ⟨w.heap.size, 0, none⟩ = some (.bool xn) ∧ wc.cell? ⟨w.heap.size, 1, none⟩ = some (.slice xa xl xk) ∧ wc.cell? ⟨w.heap.size, 2, none⟩ = some (.bool xm) ∧ wc.cell? ⟨w.heap.size, 3, none⟩ = some (.slice xb xi xj) ∧ Kp w 24 (w.heap.size + 1) wc)
  case first =>
    go_region_held3 (fun w' => w'.cell? ⟨w.heap.size, 0, none⟩ = some (.bool xn) ∧ w'.cell? ⟨w.heap.size, 1, none⟩ = some (.slice xa xl xk) ∧ w'.cell? ⟨w.heap.size, 2, none⟩ = some (.bool xm) ∧ w'.cell? ⟨w.heap.size, 3, none⟩ = some (.slice xb xi xj) ∧ Kp w 24 (w.heap.size + 1) w')
      (exact keepK4 hS1 (by repeat (first | with_reducible exact Below.refl _ _ | with_reducible refine bl_drew ?_ | with_reducible refine bl_alloc ?_ _ | with_reducible refine bl_set ?_ (by omega) _ _ | with_reducible refine bl_call ?_ (by with_reducible assumption))))
      (first
        | (go_at_call_of 80 (Value.agg #[.bool xn, .slice xa xl xk, .bool xm, .slice xb xi xj]); (with_reducible refine (under_at hx (by go_split_ands; exact Kp.bel (by assumption))).mono ?_); rintro e wN ⟨r, rfl, hr, hb1⟩; obtain ⟨dn, da, dl, dk, rfl⟩ := hr.parts; have hs1 := hb1.size; (try simp only [World.size_drew] at hs1); (try simp only [World.size_alloc] at hs1); (first | with_reducible replace hA := Blk.later hb1 hA | with_reducible replace hA := Blk.later hb1 (Blk.alloc hA _) | with_reducible replace hA := Blk.later hb1 (Blk.alloc (Blk.alloc hA _) _) | skip); (first | with_reducible replace hB := Blk.later hb1 hB | with_reducible replace hB := Blk.later hb1 (Blk.alloc hB _) | with_reducible replace hB := Blk.later hb1 (Blk.alloc (Blk.alloc hB _) _) | skip); (first | (have _t := hA; first | (have hB := Blk.later hb1 (Blk.new _ _ _)) | skip) | (have hA := Blk.later hb1 (Blk.alloc (Blk.new _ _ _) _); have hB := Blk.later hb1 (Blk.new _ _ _)) | (have hA := Blk.later hb1 (Blk.drew (Blk.alloc (Blk.new _ _ _) _)); have hB := Blk.later hb1 (Blk.drew (Blk.new _ _ _))) | (have hA := Blk.later hb1 (Blk.new _ _ _)) | (have hA := Blk.later hb1 (Blk.drew (Blk.new _ _ _))) | skip); (try (try simp only [World.size_alloc] at hA); obtain ⟨khA0, khA1, khAf⟩ := hA.c2; have khA2 := khAf 0; have khA3 := khAf 1; have khAl := hA.lt; clear khAf); (try (try simp only [World.size_alloc] at hB); obtain ⟨khB0, khB1, khBf⟩ := hB.c2; have khB2 := khBf 0; have khB3 := khBf 1; have khBl := hB.lt; clear khBf))
        | (go_at_call_of 23 (Value.agg #[.bool xn, .slice xa xl xk]); (with_reducible refine (Div_any _ (hx1.below (by go_split_ands; exact Kp.bel (by assumption)) (Nat.le_refl _)) (by repeat (first | with_reducible assumption | with_reducible refine IntV.drewd ?_ | with_reducible refine IntV.allocd ?_ _)) sx sd).mono ?_); rintro e wN ⟨Q, R, rfl, hQ, hR, hb1⟩; rw [if_neg hd0.out] at hQ hR; obtain ⟨sn, sa, sl, sk, rfl⟩ := hQ.parts; obtain ⟨tn, ta, tl, tk, rfl⟩ := hR.parts; have hs1 := hb1.size; (try simp only [World.size_drew] at hs1); (try simp only [World.size_alloc] at hs1); (first | with_reducible replace hA := Blk.later hb1 hA | with_reducible replace hA := Blk.later hb1 (Blk.alloc hA _) | with_reducible replace hA := Blk.later hb1 (Blk.alloc (Blk.alloc hA _) _) | skip); (first | with_reducible replace hB := Blk.later hb1 hB | with_reducible replace hB := Blk.later hb1 (Blk.alloc hB _) | with_reducible replace hB := Blk.later hb1 (Blk.alloc (Blk.alloc hB _) _) | skip); (first | (have _t := hA; first | (have hB := Blk.later hb1 (Blk.new _ _ _)) | skip) | (have hA := Blk.later hb1 (Blk.alloc (Blk.new _ _ _) _); have hB := Blk.later hb1 (Blk.new _ _ _)) | (have hA := Blk.later hb1 (Blk.drew (Blk.alloc (Blk.new _ _ _) _)); have hB := Blk.later hb1 (Blk.drew (Blk.new _ _ _))) | (have hA := Blk.later hb1 (Blk.new _ _ _)) | (have hA := Blk.later hb1 (Blk.drew (Blk.new _ _ _))) | skip); (try (try simp only [World.size_alloc] at hA); obtain ⟨khA0, khA1, khAf⟩ := hA.c2; have khA2 := khAf 0; have khA3 := khAf 1; have khAl := hA.lt; clear khAf); (try (try simp only [World.size_alloc] at hB); obtain ⟨khB0, khB1, khBf⟩ := hB.c2; have khB2 := khBf 0; have khB3 := khBf 1; have khBl := hB.lt; clear khBf)))
    all_goals
      go_wp2_with fail
      go_meet
      refine ⟨_, _, sn, sa, sl, sk, tn, ta, tl, tk, rfl, rfl, ?r6, ?r7, ?r1, ?r2, ?r3, ?r4, ?r5⟩
      case r6 => omega
      case r7 => omega
      case r1 => repeat (first | with_reducible refine Blk.later (by with_reducible assumption) ?_ | with_reducible refine Blk.drew ?_ | with_reducible exact Blk.new _ _ _ | with_reducible exact Blk.new_at _ _ _ (World.size_alloc _ _).symm | with_reducible exact Blk.new_at _ _ _ ((World.size_setCell _ _ _).trans (World.size_setCell _ _ _)).symm | with_reducible refine Blk.alloc ?_ _ | with_reducible refine Blk.two (a := .bool false) (b := .slice none 0 0) ?_ _ _ | with_reducible refine Blk.far ?_ (by simp only [ne_eq]; omega) _)
      case r2 => repeat (first | with_reducible refine Blk.later (by with_reducible assumption) ?_ | with_reducible refine Blk.drew ?_ | with_reducible exact Blk.new _ _ _ | with_reducible exact Blk.new_at _ _ _ (World.size_alloc _ _).symm | with_reducible exact Blk.new_at _ _ _ ((World.size_setCell _ _ _).trans (World.size_setCell _ _ _)).symm | with_reducible refine Blk.alloc ?_ _ | with_reducible refine Blk.two (a := .bool false) (b := .slice none 0 0) ?_ _ _ | with_reducible refine Blk.far ?_ (by simp only [ne_eq]; omega) _)
      case r3 => ((repeat (first | with_reducible assumption | with_reducible refine IntV.drewd ?_ | with_reducible refine IntV.allocd ?_ _ | with_reducible refine IntV.store ?_ (n := false) (b := none) (l := 0) (m := 0) ?_ _ _ | with_reducible refine IntV.later (by with_reducible assumption) ?_)); all_goals repeat (first | with_reducible refine Blk.later (by with_reducible assumption) ?_ | with_reducible refine Blk.drew ?_ | with_reducible exact Blk.new _ _ _ | with_reducible exact Blk.new_at _ _ _ (World.size_alloc _ _).symm | with_reducible exact Blk.new_at _ _ _ ((World.size_setCell _ _ _).trans (World.size_setCell _ _ _)).symm | with_reducible refine Blk.alloc ?_ _ | with_reducible refine Blk.two (a := .bool false) (b := .slice none 0 0) ?_ _ _ | with_reducible refine Blk.far ?_ (by simp only [ne_eq]; omega) _))
      case r4 => ((repeat (first | with_reducible assumption | with_reducible refine IntV.drewd ?_ | with_reducible refine IntV.allocd ?_ _ | with_reducible refine IntV.store ?_ (n := false) (b := none) (l := 0) (m := 0) ?_ _ _ | with_reducible refine IntV.later (by with_reducible assumption) ?_)); all_goals repeat (first | with_reducible refine Blk.later (by with_reducible assumption) ?_ | with_reducible refine Blk.drew ?_ | with_reducible exact Blk.new _ _ _ | with_reducible exact Blk.new_at _ _ _ (World.size_alloc _ _).symm | with_reducible exact Blk.new_at _ _ _ ((World.size_setCell _ _ _).trans (World.size_setCell _ _ _)).symm | with_reducible refine Blk.alloc ?_ _ | with_reducible refine Blk.two (a := .bool false) (b := .slice none 0 0) ?_ _ _ | with_reducible refine Blk.far ?_ (by simp only [ne_eq]; omega) _))
      case r5 => exact keepK4 hS1 (by repeat (first | with_reducible exact Below.refl _ _ | with_reducible refine bl_drew ?_ | with_reducible refine bl_alloc ?_ _ | with_reducible refine bl_set ?_ (by omega) _ _ | with_reducible refine bl_call ?_ (by with_reducible assumption)))
  case rest =>
    obtain ⟨g5, g6, sn, sa, sl, sk, tn, ta, tl, tk, rfl, rfl, hg5, hg6, hBa, hBb, ha, hb, hS⟩ := hcut
    clear hS1 cx0 cx1 cx2 cx3 hK hWs hWR sb hx
    have n5 : g5 ≠ w.heap.size + 1 := by omega
    have n6 : g6 ≠ w.heap.size + 1 := by omega
    have n7 := n5.symm
    have n8 := n6.symm
    rename_i wc
    obtain ⟨cx0, cx1, cx2, cx3, hK⟩ := hS
    obtain ⟨s0, s1, -⟩ := hBa.c2
    obtain ⟨t0, t1, -⟩ := hBb.c2
    have htl := hb.sign.2
    have HT : Hid (decide (tl = 0) = decide (p.den = 1)) := hide (by rw [htl]; exact HZ.out)
    clear htl
    generalize hDD : decide (p.den = 1) = D at *
    have HDD := hide hDD
    clear hDD
    have HT2 : Hid (((tl : Int) == 0) = D) := hide (by rw [← HT.out]; by_cases h : tl = 0 <;> simp [h])
    obtain ⟨_, _, _, _, k0, k1, kf0, kf1, hX4⟩ := Kp.at (t := 24) (g := w.heap.size + 1) (w := w) hK (Below.refl _ _)
    have hI := ha.st2 hX4 (.bool sn) (.slice sa sl sk)
    obtain ⟨e0, e1, -⟩ := (hX4.two (.bool sn) (.slice sa sl sk)).c2
    have hB2 := set2b hK.bel hK.le 0 1 (.bool sn) (.slice sa sl sk)
    rw [HF.out] at hI
    go_upto_region 2 with (fail)
    go_region
    all_goals
      go_wp2_with fail
      refine bodyPost_ret (v := .tuple #[.agg #[.bool sn, .slice sa sl sk], .bool D]) (by have h2 := HT2.out; simp [results, Tryd.results51, go_sem, e0, e1, h2]) rfl ?_
      rw [← HP.out]
      exact ⟨_, by rw [HDD.out], hI, by first | exact hB2.drew | exact hB2⟩

set_option maxRecDepth 100000 in
set_option maxHeartbeats 6400000 in
theorem FText_any {p : Rat} {u : Value} (w : World) (hx : FracV w u p) (hp : Qn 20 p) (ht : Tab w) : Calls Tryd.prog 59 #[u] w (FTextPost w p) := by
  generalize hP : FTextPost w p = Post
  have HP := hide hP
  clear hP
  have hpz := hp.z (by decide)
  obtain ⟨sx, sd, su, -, -, -, -, -, -⟩ := Qz.sm hpz hpz
  have l1 := decZ_len hp.1
  have l2 := decZ_len hp.2
  obtain ⟨xn, xa, xl, xk, xm, xb, xi, xj, rfl, hx1, hx2⟩ := FracV.parts hx
  obtain ⟨W, hW⟩ : ∃ W, (w.alloc (.cells #[.bool xn, .slice xa xl xk, .bool xm, .slice xb xi xj] 58)) = W := ⟨_, rfl⟩
  have bx : Blk W w.heap.size 58 #[.bool xn, .slice xa xl xk, .bool xm, .slice xb xi xj] := by rw [← hW]; exact Blk.new w _ _
  have sb : Below w.heap.size w W := by rw [← hW]; exact (Below.refl w.heap.size w).alloc (Nat.le_refl _) _
  obtain ⟨cx0, cx1, cx2, cx3, -⟩ := bx.c4
  have HW := hide hW
  clear hW bx
  go_enter Tryd.func59, Tryd.ntmps59
  go_upto_region 1 with (fail)
  rw [HW.out]
  clear HW
  have hl := hx2.sign.2
  have htw := ht.atBelow sb (Nat.le_refl _)
  by_cases h1 : p.den = 1
  · have HU : Hid (decQ p = decZ p.num) := hide (by unfold decQ; rw [if_pos h1, List.append_nil])
    obtain rfl : xi = 0 := by rw [hl]; unfold und; rw [if_pos h1]; rfl
    clear hl h1
    go_wp2_with fail
    refine (Text_any W (hx1.below sb (Nat.le_refl _)) sx htw).mono ?_
    rintro e w1 ⟨rfl, hb1⟩
    go_wp2_with fail
    rw [← HP.out]
    exact ⟨by rw [HU.out]; rfl, sb.trans (hb1.mono sb.size)⟩
  · have HU : Hid (decQ p = decZ p.num ++ 47 :: decZ (p.den : Int)) := hide (by unfold decQ; rw [if_neg h1])
    have hu : und p = (p.den : Int) := by unfold und; rw [if_neg h1]
    have hi0 : xi ≠ 0 := by rw [hl, hu]; intro e; have := len_eq_zero.1 e; have := p.den_nz; omega
    have e0 : ((xi : Int) == 0) = false := beq_eq_false_iff_ne.2 (by omega)
    have e1 : decide (xi = 0) = false := decide_eq_false hi0
    rw [hu] at hx2
    have ha1 := fun (w : World) => add_txt w (decZ p.num) [47] (by simp; omega)
    have ha2 := fun (w : World) => add_txt w (decZ p.num ++ [47]) (decZ (p.den : Int)) (by simp; omega)
    clear hl h1 hu hi0 hx l1 l2
    go_upto_region 3 with (fail)
    have sb1 := sb.drew
    go_region_held3 (fun w' => w'.cell? ⟨w.heap.size, 0, none⟩ = some (.bool xn) ∧ w'.cell? ⟨w.heap.size, 1, none⟩ = some (.slice xa xl xk) ∧ w'.cell? ⟨w.heap.size, 2, none⟩ = some (.bool xm) ∧ w'.cell? ⟨w.heap.size, 3, none⟩ = some (.slice xb xi xj) ∧ Below w.heap.size w w')
      (first | with_reducible exact keepZ4 (by assumption) hb1 | go_keep)
      (first
        | (go_at_call_of 35 (Value.agg #[.bool xn, .slice xa xl xk]); (with_reducible refine (Text_any _ (hx1.below (by go_split_ands; assumption) (Nat.le_refl _)) sx (ht.atBelow (by go_split_ands; assumption) (Nat.le_refl _))).mono ?_); rintro e wN ⟨rfl, hb1⟩)
        | (go_at_call_of 35 (Value.agg #[.bool xm, .slice xb xi xj]); (with_reducible refine (Text_any _ (hx2.below (by go_split_ands; assumption) (Nat.le_refl _)) sd (ht.atBelow (by go_split_ands; assumption) (Nat.le_refl _))).mono ?_); rintro e wN ⟨rfl, hb1⟩))
    rename_i hS
    have hB := hS.2.2.2.2
    go_wp2_with fail
    rw [← HP.out]
    exact ⟨by rw [HU.out]; simp, hB⟩

end Go.Proofs.YthpibilefdmemaaDoor
