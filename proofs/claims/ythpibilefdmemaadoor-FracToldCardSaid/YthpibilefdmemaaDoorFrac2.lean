/- Package frac: by its functions' contracts. -/
import Derived.Test.YthpibilefdmemaaDoorFrac1
import Derived.Deep.RegionHeld3
namespace Go.Proofs.YthpibilefdmemaaDoor
open Go.RowKit

set_option maxRecDepth 100000 in
set_option maxHeartbeats 1600000 in
theorem under_any {a b : Int} {u : Value} (w : World) (hx : FrV w u a b) : Calls Tryd.prog 80 #[u] w (IntPost w (ben b)) := by
  generalize hP : IntPost w (ben b) = Post
  have HP := hide hP
  clear hP
  obtain ⟨xn, xa, xl, xk, xm, xb, xi, xj, rfl, hx1, hx2⟩ := FrV.parts hx
  have hl := hx2.sign.2
  replace hl := hide hl
  obtain ⟨W, hW⟩ : ∃ W, ((w.alloc (.cells #[.bool xn, .slice xa xl xk, .bool xm, .slice xb xi xj] 58)).alloc (.cells #[.bool false, .slice none 0 0] 24)) = W := ⟨_, rfl⟩
  have bx : Blk W w.heap.size 58 #[.bool xn, .slice xa xl xk, .bool xm, .slice xb xi xj] := by rw [← hW]; exact (Blk.new w _ _).alloc _
  have bR : Blk W (w.heap.size + 1) 24 #[.bool false, .slice none 0 0] := by rw [← hW]; exact Blk.new_at _ _ _ (by simp)
  have sb : Below w.heap.size w W := by rw [← hW]; exact ((Below.refl w.heap.size w).alloc (Nat.le_refl _) _).alloc (by simp) _
  obtain ⟨cx0, cx1, cx2, cx3, -⟩ := bx.c4
  have hK : Kp w 24 (w.heap.size + 1) W := ⟨sb, by omega, _, _, _, _, bR⟩
  have HW := hide hW
  clear hW bx bR
  go_enter Tryd.func80, Tryd.ntmps80
  go_upto_region 1 with (fail)
  rw [HW.out]
  clear HW
  by_cases h0 : b = 0
  · have hi0 : xi = 0 := by rw [hl.out, h0]; rfl
    subst hi0
    have HB : Hid (ben b = 1) := hide (by rw [ben, if_pos h0])
    clear hl h0
    go_wp2_with fail
    refine (Of_any 1 W (by decide) (by decide)).mono ?_
    rintro e w1 ⟨r, rfl, hr, hb1⟩
    obtain ⟨rn, ra, rl, rk, rfl⟩ := hr.parts
    obtain ⟨_, _, _, _, k0, k1, kf0, kf1, hX4⟩ := Kp.at (t := 24) (g := w.heap.size + 1) (w := w) hK hb1
    have hI := hr.st2 hX4 (.bool rn) (.slice ra rl rk)
    obtain ⟨e0, e1, -⟩ := (hX4.two (.bool rn) (.slice ra rl rk)).c2
    go_wp2_with fail
    refine bodyPost_ret (v := Value.agg #[.bool rn, .slice ra rl rk]) (by simp [results, Tryd.results80, go_sem, e0, e1]) rfl ?_
    rw [← HP.out, HB.out]
    exact ⟨_, rfl, hI, set2b (hK.below hb1).bel (by omega) _ _ _ _⟩
  · have hi0 : (xi : Int) ≠ 0 := by intro e; apply h0; have := (dg_eq_nil BB2).1 (List.length_eq_zero_iff.1 (show (dg BB b.natAbs).length = 0 by have hl := hl.out; unfold len at hl; omega)); omega
    have e1 : ((xi : Int) == 0) = false := beq_eq_false_iff_ne.2 hi0
    have e2 : decide (xi = 0) = false := decide_eq_false (by omega)
    have HB : Hid (ben b = b) := hide (by rw [ben, if_neg h0])
    have hb1 := Below.refl W.heap.size W
    obtain ⟨_, _, _, _, k0, k1, kf0, kf1, hX4⟩ := Kp.at (t := 24) (g := w.heap.size + 1) (w := w) hK hb1
    have hI := (hx2.below sb (Nat.le_refl _)).st2 hX4 (.bool xm) (.slice xb xi xj)
    clear hl h0 hi0
    obtain ⟨e3, e4, -⟩ := (hX4.two (.bool xm) (.slice xb xi xj)).c2
    go_wp2_with fail
    refine bodyPost_ret (v := .agg #[.bool xm, .slice xb xi xj]) (by simp [results, Tryd.results80, go_sem, e3, e4]) rfl ?_
    rw [← HP.out, HB.out]
    exact ⟨_, rfl, hI, set2b sb (by omega) _ _ _ _⟩

theorem under_at {w c : World} {q : Rat} {u : Value} (hx : FracV w u q) (hB : Below w.heap.size w c) : Calls Tryd.prog 80 #[u] c (IntPost c (q.den : Int)) := by
  have h := under_any c (hx.below hB (Nat.le_refl _))
  rwa [ben_und] at h

set_option maxRecDepth 100000 in
set_option maxHeartbeats 1600000 in
theorem fcopied_any {x : Int} {u : Value} (w : World) (hx : IntV w u x) (hn : Sm x) : Calls Tryd.prog 79 #[u] w (IntPost w x) := by
  generalize hP : IntPost w x = Post
  have HP := hide hP
  clear hP
  obtain ⟨xn, xa, xl, xk, rfl⟩ := hx.parts
  obtain ⟨W, hW⟩ : ∃ W, ((w.alloc (.cells #[.bool xn, .slice xa xl xk] 24)).alloc (.cells #[.bool false, .slice none 0 0] 24)) = W := ⟨_, rfl⟩
  have bx : Blk W w.heap.size 24 #[.bool xn, .slice xa xl xk] := by rw [← hW]; exact (Blk.new w _ _).alloc _
  have bR : Blk W (w.heap.size + 1) 24 #[.bool false, .slice none 0 0] := by rw [← hW]; exact Blk.new_at _ _ _ (by simp)
  have sb : Below w.heap.size w W := by rw [← hW]; exact ((Below.refl w.heap.size w).alloc (Nat.le_refl _) _).alloc (by simp) _
  obtain ⟨cx0, cx1, -⟩ := bx.c2
  have hK : Kp w 24 (w.heap.size + 1) W := ⟨sb, by omega, _, _, _, _, bR⟩
  have HW := hide hW
  clear hW bx bR
  go_enter Tryd.func79, Tryd.ntmps79
  go_upto_region 1 with (fail)
  rw [HW.out]
  clear HW
  have s0 : Sm 0 := sm10 (by decide)
  go_wp2_with fail
  refine (Add_any W (hx.below sb (Nat.le_refl _)) (IntV.zero W) hn s0).mono ?_
  rintro e w1 ⟨r, rfl, hr, hb1⟩
  rw [Int.add_zero] at hr
  obtain ⟨rn, ra, rl, rk, rfl⟩ := hr.parts
  obtain ⟨_, _, _, _, k0, k1, kf0, kf1, hX4⟩ := Kp.at (t := 24) (g := w.heap.size + 1) (w := w) hK hb1
  have hI := hr.st2 hX4 (.bool rn) (.slice ra rl rk)
  obtain ⟨e0, e1, -⟩ := (hX4.two (.bool rn) (.slice ra rl rk)).c2
  go_wp2_with fail
  refine bodyPost_ret (v := Value.agg #[.bool rn, .slice ra rl rk]) (by simp [results, Tryd.results79, go_sem, e0, e1]) rfl ?_
  rw [← HP.out]
  exact ⟨_, rfl, hI, set2b (hK.below hb1).bel (by omega) _ _ _ _⟩

set_option maxRecDepth 100000 in
set_option maxHeartbeats 1600000 in
theorem isOne_any {x : Int} {u : Value} (w : World) (hx : IntV w u x) (hn : Sm x) : Calls Tryd.prog 77 #[u] w fun e w' => e = .returned (.bool (decide (x = 1))) ∧ Below w.heap.size w w' := by
  obtain ⟨xn, xa, xl, xk, rfl⟩ := hx.parts
  obtain ⟨C, hC⟩ : ∃ C, ordZ x 1 = C := ⟨_, rfl⟩
  have HC := hide hC
  clear hC
  generalize hr : decide (x = 1) = r
  have HR : Hid ((C == 0) = r) := hide (by rw [← hr, ← HC.out]; unfold ordZ; by_cases h : x = 1 <;> simp [h]; omega)
  clear hr
  have s1 : Sm 1 := sm_small (by decide)
  obtain ⟨W, hW⟩ : ∃ W, (w.alloc (.cells #[.bool xn, .slice xa xl xk] 24)) = W := ⟨_, rfl⟩
  have bx : Blk W w.heap.size 24 #[.bool xn, .slice xa xl xk] := by rw [← hW]; exact Blk.new w _ _
  have sb : Below w.heap.size w W := by rw [← hW]; exact (Below.refl w.heap.size w).alloc (Nat.le_refl _) _
  obtain ⟨cx0, cx1, -⟩ := bx.c2
  have HW := hide hW
  clear hW bx
  go_enter Tryd.func77, Tryd.ntmps77
  go_upto_region 1 with (fail)
  rw [HW.out]
  clear HW
  have sb1 := sb.drew
  go_region_held3 (fun w' => w'.cell? ⟨w.heap.size, 0, none⟩ = some (.bool xn) ∧ w'.cell? ⟨w.heap.size, 1, none⟩ = some (.slice xa xl xk) ∧ Below w.heap.size w w')
    (first | with_reducible exact keepZ2 (by assumption) hb1 | go_keep)
    (first
      | (go_at_call_of 18 (Value.int .i64 1); (with_reducible refine (Of_any 1 _ (by decide) (by decide)).mono ?_); rintro e wN ⟨rA, rfl, hA, hb1⟩)
      | (go_at_call_of 33 rA; (with_reducible refine (Cmp_at (hx.below (by go_split_ands; assumption) (Nat.le_refl _)) hA hn s1 (Below.refl _ _) HC.out).mono ?_); rintro e wN ⟨rfl, hb1⟩))
  rename_i hS
  have hB := hS.2.2
  go_wp2_with fail
  go_ret
  exact ⟨by rw [← HR.out]; rfl, hB⟩

set_option maxRecDepth 100000 in
set_option maxHeartbeats 1600000 in
theorem FOf_any {x : Int} {u : Value} (w : World) (hx : IntV w u x) (hn : Sm x) : Calls Tryd.prog 44 #[u] w (FrPost w x 0) := by
  generalize hP : FrPost w x 0 = Post
  have HP := hide hP
  clear hP
  obtain ⟨xn, xa, xl, xk, rfl⟩ := hx.parts
  obtain ⟨W, hW⟩ : ∃ W, ((w.alloc (.cells #[.bool xn, .slice xa xl xk] 24)).alloc (.cells #[.bool false, .slice none 0 0, .bool false, .slice none 0 0] 58)) = W := ⟨_, rfl⟩
  have bx : Blk W w.heap.size 24 #[.bool xn, .slice xa xl xk] := by rw [← hW]; exact (Blk.new w _ _).alloc _
  have bR : Blk W (w.heap.size + 1) 58 #[.bool false, .slice none 0 0, .bool false, .slice none 0 0] := by rw [← hW]; exact Blk.new_at _ _ _ (by simp)
  have sb : Below w.heap.size w W := by rw [← hW]; exact ((Below.refl w.heap.size w).alloc (Nat.le_refl _) _).alloc (by simp) _
  obtain ⟨cx0, cx1, -⟩ := bx.c2
  have hK : Kq w 58 (w.heap.size + 1) W := ⟨sb, by omega, _, _, _, _, _, _, _, _, bR⟩
  have HW := hide hW
  clear hW bx bR
  go_enter Tryd.func44, Tryd.ntmps44
  go_upto_region 1 with (fail)
  rw [HW.out]
  clear HW
  go_wp2_with fail
  refine (fcopied_any W (hx.below sb (Nat.le_refl _)) hn).mono ?_
  rintro e w1 ⟨r, rfl, hr, hb1⟩
  obtain ⟨rn, ra, rl, rk, rfl⟩ := hr.parts
  obtain ⟨_, _, _, _, _, _, _, _, k0, k1, k2, k3, kf0, kf1, kf2, kf3, hX4⟩ := Kq.at (t := 58) (g := w.heap.size + 1) (w := w) hK hb1
  have hI := (FrV.mk hr (IntV.zero w1)).st4 hX4 (.bool rn) (.slice ra rl rk) (.bool false) (.slice none 0 0)
  obtain ⟨e0, e1, e2, e3, -⟩ := (hX4.four (.bool rn) (.slice ra rl rk) (.bool false) (.slice none 0 0)).c4
  go_wp2_with fail
  refine bodyPost_ret (v := .agg #[.bool rn, .slice ra rl rk, .bool false, .slice none 0 0]) (by simp [results, Tryd.results44, go_sem, e0, e1, e2, e3]) rfl ?_
  rw [← HP.out]
  exact ⟨_, rfl, hI, set4b (hK.below hb1).bel (by omega) _ _ _ _⟩

end Go.Proofs.YthpibilefdmemaaDoor
