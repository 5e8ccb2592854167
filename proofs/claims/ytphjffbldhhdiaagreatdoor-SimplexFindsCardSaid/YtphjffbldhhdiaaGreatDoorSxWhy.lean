/- simplex's why: by its contract. -/
import Derived.Test.YtphjffbldhhdiaaGreatDoorSxOwns
namespace Go.Proofs.YtphjffbldhhdiaaGreatDoor
open Go.RowKit

set_option maxRecDepth 100000 in
set_option maxHeartbeats 6400000 in
theorem why_any {S : Sys} {s M : Nat} (hf : Fair S s M) {t : Sim} (hi : Inv S t) {L : Spots} {l : Nat} (w : World) (hT : TabV w S t L) (hl : l < S.m) (ho : S.Over t l) (hno : ∀ c, c < S.n → ¬S.Free t l c) :
    Calls Tryz.prog 27 #[.pointer (some ⟨L.p, 0, none⟩), .int .i64 (l : Int)] w (RowPost w S.m (whyK S t l S.n)) := by
  generalize hP : RowPost w S.m (whyK S t l S.n) = Post
  have HP := hide hP
  clear hP
  obtain ⟨hn, hm⟩ := And.intro hf.n hf.m
  have hm0 : 0 < S.m := by omega
  obtain ⟨v0, hv0⟩ : ∃ v, t.told l = v := ⟨_, rfl⟩
  obtain ⟨D0, he0⟩ : ∃ D, v0 = S.n + D := ⟨t.told l - S.n, by have := ho.1; omega⟩
  have hD0 : D0 < S.m := by have := hi.at'.toldLt l hl; omega
  have e4 : (v0 : Int) - (S.n : Int) = (D0 : Int) := by omega
  have e6 : (D0 : Int) < (S.m : Int) := by omega
  have e7 : IntKind.i64.wrap (D0 : Int) = (D0 : Int) := IntWalk.i64_in _ (by omega)
  have el : (l : Int) < (S.m : Int) := by omega
  have HD0 : Hid (t.told l - S.n = D0) := hide (by omega)
  have k1 := hT.c1
  go_enter Tryz.func27, Tryz.ntmps27
  go_wp2_with (at_make; refine wpList_make_frac rfl _ _ rfl _ _ S.m rfl rfl rfl rfl (by omega) ?_)
  intro W hG0 hfr sb
  have hT1 := hT.below sb
  obtain ⟨G, hGG⟩ : ∃ G, w.heap.size = G := ⟨_, rfl⟩
  rw [hGG] at hG0 hfr sb ⊢
  have hGW : G < W.heap.size := (hG0 0 hm0).lt
  clear k1
  have k0 := hT1.c0
  have k3 := hT1.c3
  have kt := hT1.told l hl
  rw [hT.at_ hm0] at k3
  rw [hv0] at kt
  replace hv0 := hide hv0
  replace he0 := hide he0
  replace hGG := hide hGG
  clear hT1
  go_upto_region 2 with (fail)
  refine wp_region_till (S := fun w' => w'.cell? ⟨L.p, 0, none⟩ = some (.int .i64 (S.n : Int)) ∧ w'.cell? ⟨L.p, 3, none⟩ = some (.slice (some ⟨L.gt, 0, none⟩) S.m L.kt) ∧ w'.cell? ⟨L.gt, l, none⟩ = some (.int .i64 (v0 : Int)) ∧ Below W.heap.size W w') (fun i => decide (i < 15)) (by kernel_rfl) (⟨k0, k3, kt, (Below.refl _ _).drew⟩) (fun hS => ?_)
  refine Till_take (i := 0) (oi := ⟨some 15, Op.move (Operand.tmp 5), 25, "simplex.go:130", #[], none⟩) (v := ?_) rfl (by kernel_rfl) (by kernel_rfl) (by kernel_rfl) (fun _ _ _ h => h) rfl (by kernel_rfl) (Or.inl ⟨by rfl, ?_⟩) hS ?_
  rotate_left
  · (intro w' hSw; (try dsimp only at hSw); go_simp; try with_reducible rfl)
  try simp only [Act.put, sB, sC, sD]
  refine Till_take (i := 1) (oi := ⟨some 16, Op.move (Operand.tmp 0), 53, "simplex.go:130", #[], none⟩) (v := ?_) rfl (by kernel_rfl) (by kernel_rfl) (by kernel_rfl) (fun _ _ _ h => h) rfl (by kernel_rfl) (Or.inl ⟨by rfl, ?_⟩) hS ?_
  rotate_left
  · (intro w' hSw; (try dsimp only at hSw); go_simp; try with_reducible rfl)
  try simp only [Act.put, sB, sC, sD]
  refine Till_take (i := 2) (oi := ⟨some 17, Op.nilCheck (Operand.tmp 16), 0, "simplex.go:130", #[eD 1], none⟩) (v := ?_) rfl (by kernel_rfl) (by kernel_rfl) (by kernel_rfl) (fun _ _ _ h => h) rfl (by kernel_rfl) (Or.inl ⟨by rfl, ?_⟩) hS ?_
  rotate_left
  · (intro w' hSw; (try dsimp only at hSw); go_simp; try with_reducible rfl)
  try simp only [Act.put, sB, sC, sD]
  refine Till_take (i := 3) (oi := ⟨some 18, Op.fieldAddr 61 (Operand.tmp 17) 3, 0, "simplex.go:130", #[eD 2], none⟩) (v := ?_) rfl (by kernel_rfl) (by kernel_rfl) (by kernel_rfl) (fun _ _ _ h => h) rfl (by kernel_rfl) (Or.inl ⟨by rfl, ?_⟩) hS ?_
  rotate_left
  · (intro w' hSw; (try dsimp only at hSw); go_simp; try with_reducible rfl)
  try simp only [Act.put, sB, sC, sD]
  refine Till_take (i := 4) (oi := ⟨some 19, Op.load 58 (Operand.tmp 18), 58, "simplex.go:130", #[eD 3], none⟩) (v := ?_) rfl (by kernel_rfl) (by kernel_rfl) (by kernel_rfl) (fun _ _ _ h => h) rfl (by kernel_rfl) (Or.inl ⟨by rfl, ?_⟩) hS ?_
  rotate_left
  · (intro w' hSw; (try dsimp only at hSw); go_simp; try with_reducible rfl)
  try simp only [Act.put, sB, sC, sD]
  refine Till_take (i := 5) (oi := ⟨some 20, Op.move (Operand.tmp 1), 3, "simplex.go:130", #[], none⟩) (v := ?_) rfl (by kernel_rfl) (by kernel_rfl) (by kernel_rfl) (fun _ _ _ h => h) rfl (by kernel_rfl) (Or.inl ⟨by rfl, ?_⟩) hS ?_
  rotate_left
  · (intro w' hSw; (try dsimp only at hSw); go_simp; try with_reducible rfl)
  try simp only [Act.put, sB, sC, sD]
  refine Till_take (i := 6) (oi := ⟨some 21, Op.indexAddr 58 (Operand.tmp 19) (Operand.tmp 20), 0, "simplex.go:130", #[eD 4, eD 5], none⟩) (v := ?_) rfl (by kernel_rfl) (by kernel_rfl) (by kernel_rfl) (fun _ _ _ h => h) rfl (by kernel_rfl) (Or.inl ⟨by rfl, ?_⟩) hS ?_
  rotate_left
  · (intro w' hSw; (try dsimp only at hSw); go_simp; try with_reducible rfl)
  try simp only [Act.put, sB, sC, sD]
  refine Till_take (i := 7) (oi := ⟨some 22, Op.load 3 (Operand.tmp 21), 3, "simplex.go:130", #[eD 6], none⟩) (v := ?_) rfl (by kernel_rfl) (by kernel_rfl) (by kernel_rfl) (fun _ _ _ h => h) rfl (by kernel_rfl) (Or.inl ⟨by rfl, ?_⟩) hS ?_
  rotate_left
  · (intro w' hSw; (try dsimp only at hSw); go_simp; try with_reducible rfl)
  try simp only [Act.put, sB, sC, sD]
  refine Till_take (i := 8) (oi := ⟨some 23, Op.move (Operand.tmp 0), 53, "simplex.go:130", #[], none⟩) (v := ?_) rfl (by kernel_rfl) (by kernel_rfl) (by kernel_rfl) (fun _ _ _ h => h) rfl (by kernel_rfl) (Or.inl ⟨by rfl, ?_⟩) hS ?_
  rotate_left
  · (intro w' hSw; (try dsimp only at hSw); go_simp; try with_reducible rfl)
  try simp only [Act.put, sB, sC, sD]
  refine Till_take (i := 9) (oi := ⟨some 24, Op.nilCheck (Operand.tmp 23), 0, "simplex.go:130", #[eD 8], none⟩) (v := ?_) rfl (by kernel_rfl) (by kernel_rfl) (by kernel_rfl) (fun _ _ _ h => h) rfl (by kernel_rfl) (Or.inl ⟨by rfl, ?_⟩) hS ?_
  rotate_left
  · (intro w' hSw; (try dsimp only at hSw); go_simp; try with_reducible rfl)
  try simp only [Act.put, sB, sC, sD]
  refine Till_take (i := 10) (oi := ⟨some 25, Op.fieldAddr 61 (Operand.tmp 24) 0, 0, "simplex.go:130", #[eD 9], none⟩) (v := ?_) rfl (by kernel_rfl) (by kernel_rfl) (by kernel_rfl) (fun _ _ _ h => h) rfl (by kernel_rfl) (Or.inl ⟨by rfl, ?_⟩) hS ?_
  rotate_left
  · (intro w' hSw; (try dsimp only at hSw); go_simp; try with_reducible rfl)
  try simp only [Act.put, sB, sC, sD]
  refine Till_take (i := 11) (oi := ⟨some 26, Op.load 3 (Operand.tmp 25), 3, "simplex.go:130", #[eD 10], none⟩) (v := ?_) rfl (by kernel_rfl) (by kernel_rfl) (by kernel_rfl) (fun _ _ _ h => h) rfl (by kernel_rfl) (Or.inl ⟨by rfl, ?_⟩) hS ?_
  rotate_left
  · (intro w' hSw; (try dsimp only at hSw); go_simp; try with_reducible rfl)
  try simp only [Act.put, sB, sC, sD]
  refine Till_take (i := 12) (oi := ⟨some 27, Op.binOp BinOp.sub 3 (Operand.tmp 22) (Operand.tmp 26) 3, 3, "simplex.go:130", #[eD 7, eD 11], none⟩) (v := ?_) rfl (by kernel_rfl) (by kernel_rfl) (by kernel_rfl) (fun _ _ _ h => h) rfl (by kernel_rfl) (Or.inl ⟨by rfl, ?_⟩) hS ?_
  rotate_left
  · (intro w' hSw; (try dsimp only at hSw); go_simp; try with_reducible rfl)
  try simp only [Act.put, sB, sC, sD]
  refine Till_ready (rs := [13]) (by kernel_rfl) (by kernel_rfl) (by simp) ?_
  refine AllReadyT.cons (o := ⟨some 28, Op.call { callee := Callee.value (Operand.func 42), args := #[Operand.const (Value.int IntKind.i64 1)], argTypes := #[2] }, 37, "simplex.go:130", #[], none⟩) rfl (fun K hK => ?_) AllReadyT.nil
  go_simp
  (go_at_call 42; (with_reducible refine (Of_any 1 _ (by decide) (by decide)).mono ?_); rintro e wA ⟨rA, rfl, hA, hb1⟩)
  obtain ⟨an, aa, al, ak, rfl⟩ := hA.form
  go_wp2_with fail
  refine hK.out _ _ (keepZ3 hS hb1) (fun hS => ?_)
  clear hK K hb1
  try simp only [Act.put, sB, sC, sD]
  refine Till_ready (rs := [14]) (by kernel_rfl) (by kernel_rfl) (by simp) ?_
  refine AllReadyT.cons (o := ⟨some 29, Op.call { callee := Callee.value (Operand.func 41), args := #[Operand.tmp 28], argTypes := #[37] }, 39, "simplex.go:130", #[eD 13, eC 13], none⟩) rfl (fun K hK => ?_) AllReadyT.nil
  go_simp
  (go_at_call 41; (with_reducible refine (FOf2_any _ hA (sm_small (by decide))).mono ?_); rintro e wC ⟨rC, rfl, hC, hb1⟩)
  obtain ⟨yn, ya, yl, yk, ym, yb, yi, yj, rfl, -, -⟩ := FracV.parts hC
  go_wp2_with fail
  refine hK.out _ _ (keepZ3 hS hb1) (fun hS => ?_)
  clear hK K hb1
  try simp only [Act.put, sB, sC, sD]
  refine Till_turn (by kernel_rfl) ?_
  refine wpAnyH_take (i := 15) (oi := ⟨some 30, Op.indexAddr 25 (Operand.tmp 15) (Operand.tmp 27), 0, "simplex.go:130", #[eD 0, eD 12, eP 0, eP 1, eP 2, eP 3, eP 4, eP 5, eP 6, eP 7, eP 8, eP 9, eP 10, eP 11, eP 12, eP 13, eP 14], none⟩) (v := ?_) rfl (by kernel_rfl) (by kernel_rfl) (by kernel_rfl) (fun _ _ _ h => h) (Or.inl ⟨by rfl, ?_⟩) trivial ?_
  rotate_left
  · (intro w' hSw; (try dsimp only at hSw); go_simp; try with_reducible rfl)
  try simp only [Act.put, sB, sC, sD]
  refine wpAnyH_ready (rs := [16]) (by kernel_rfl) (by simp) ?_
  refine AllReadyH.cons (o := ⟨none, Op.store 39 (Operand.tmp 30) (Operand.tmp 29), 0, "simplex.go:130", #[eD 15, eD 14, eC 14, eP 0, eP 1, eP 2, eP 3, eP 4, eP 5, eP 6, eP 7, eP 8, eP 9, eP 10, eP 11, eP 12, eP 13, eP 14], none⟩) rfl (fun K hK => ?_) AllReadyH.nil
  have hB4 := hS.2.2.2
  have HF5 : Hid (∀ i, i < S.m → FAt wC G (i * 4) 0) := hide (fun i hi => (hG0 i hi).below hB4 (Nat.le_refl _))
  have hfr5 : ∀ i, wC.frozen? ⟨G, i, none⟩ = false := fun i => frozen_below hB4 hGW (hfr i)
  have hB5 : Below G w wC := sb.trans (hB4.mono (Nat.le_of_lt hGW))
  have hq : FracV wC (.agg #[.bool yn, .slice ya yl yk, .bool ym, .slice yb yi yj]) 1 := hC
  have hD0m : D0 < S.m := hD0
  obtain ⟨_, _, _, _, _, _, _, _, z0, z1, z2, z3, -⟩ := HF5.out D0 hD0m
  have f0 := hfr5 (D0 * 4)
  have f1 := hfr5 (D0 * 4 + 1)
  have f2 := hfr5 (D0 * 4 + 2)
  have f3 := hfr5 (D0 * 4 + 3)
  obtain ⟨W3, hW3⟩ : ∃ W3, put4 wC G (D0 * 4) (.bool yn) (.slice ya yl yk) (.bool ym) (.slice yb yi yj) = W3 := ⟨_, rfl⟩
  have hB3 : Below G w W3 := by rw [← hW3]; exact below_put4 hB5 (Nat.le_refl G) _ _ _ _
  have hfr3 : ∀ i, W3.frozen? ⟨G, i, none⟩ = false := fun i => by rw [← hW3]; exact (frozen_put4 _ _ _ _ _ _ _ _).trans (hfr5 i)
  have HF3 : Hid (∀ i, i < S.m → FAt W3 G (i * 4) (whyK S t l 0 i)) := hide (by rw [← hW3]; unfold whyK; rw [HD0.out]; exact rows_put HF5.out (by omega) hq)
  simp only [put4] at hW3
  have HW3 := hide hW3
  clear hW3
  go_simp
  refine hK.out _ _ trivial (fun _ => ?_)
  clear hK K z0 z1 z2 z3 f0 f1 f2 f3
  try simp only [Act.put, sB, sC, sD]
  refine wpAnyH_done (by kernel_rfl) ?_ _
  rw [HW3.out]
  clear HW3 hS k0 k3 kt e4 e6 e7
  have hT3 := hT.below (by rw [hGG.out]; exact hB3)
  have k4 := hT3.c4
  clear hT3
  go_wp2_with fail
  clear k4
  go_loopg [36] S.n (fun k v36 wr => ∃ j : Nat, j + k = S.n ∧ v36 = .int .i64 (j : Int) ∧ Below G w wr ∧ Hid (∀ i, i < S.m → FAt wr G (i * 4) (whyK S t l j i)) ∧ (∀ i, wr.frozen? ⟨G, i, none⟩ = false))
  case atStart => exact ⟨0, by omega, rfl, hB3, HF3, hfr3⟩
  case round =>
    clear hB3 HF3 hfr3
    obtain ⟨j, hjk, rfl, hB, HF, hfr⟩ := hrel
    rcases Nat.eq_zero_or_pos gk with h0 | h0
    · subst h0
      obtain rfl : j = S.n := by omega
      go_wp2_with fail
      rw [← HP.out]
      exact ⟨by rw [hGG.out]; exact hB, G, Nat.le_of_eq hGG.out, rfl, HF.out⟩
    · have hj : j < S.n := by omega
      have hT2 := hT.below (by rw [hGG.out]; exact hB)
      have k4 := hT2.c4
      have k5 := hT2.c5
      have kc := hT2.col j hj
      have kr := hT2.rows l hl
      have hn0 : 0 < S.n := by omega
      rw [hT.ac hn0] at k4
      rw [hT.ax hm0] at k5
      rw [hT.ra l hl hn0] at kr
      obtain ⟨xn, xa, xl, xk, xm, xb, xi, xj, x0, x1, x2, x3, hx⟩ := hT2.T l j hl hj
      have zx : Qz (t.T l j) := (hf.T hi hl hj).z (by decide)
      obtain ⟨v, hv⟩ : ∃ v, t.col j = v := ⟨_, rfl⟩
      rw [hv] at kc
      obtain ⟨W2, hW2⟩ : ∃ W2, wr.alloc (.cells #[.bool xn, .slice xa xl xk, .bool xm, .slice xb xi xj] 39) = W2 := ⟨_, rfl⟩
      have bx : Blk W2 wr.heap.size 39 #[.bool xn, .slice xa xl xk, .bool xm, .slice xb xi xj] := by rw [← hW2]; exact Blk.new wr _ _
      have sb2 : Below wr.heap.size wr W2 := by rw [← hW2]; exact (Below.refl wr.heap.size wr).alloc (Nat.le_refl _) _
      have hx2 := hx.below sb2 (Nat.le_refl _)
      have hlt : G < wr.heap.size := (HF.out 0 hm0).lt
      replace HW2 := hide hW2
      clear hW2 hx
      have ej : (j : Int) < (S.n : Int) := by omega
      obtain ⟨C, hC⟩ : ∃ C, ordQ (t.T l j) 0 = C := ⟨_, rfl⟩
      replace HV := hide hv
      have HC := hide hC
      clear hC hv
      have hix : (Instr.indexAt 58 (.slice L.ac S.n L.kc) (.int .i64 (j : Int))).run Tryz.prog wr = .ok (.pointer (some ⟨L.gc, j, none⟩)) wr := by
        rw [hT.ac hn0]
        go_simp
      go_upto_region 7 with (fail)
      clear hix
      rw [HW2.out]
      clear HW2 x0 x1 x2 x3 k4 k5 kc kr hT2
      obtain ⟨b0, b1, b2, b3, -⟩ := bx.c4
      go_wp2_with fail
      refine (sign_at hx2 zx HC.out).mono ?_
      rintro e w5 ⟨rfl, hb5⟩
      have sb5 := sb2.trans (hb5.mono sb2.size)
      by_cases hT0 : t.T l j = 0
      · obtain rfl : C = 0 := by rw [← HC.out, hT0, ordQ_eq]; decide
        have HE : Hid (whyK S t l (j + 1) = whyK S t l j) := hide (if_pos hT0)
        clear hT0
        go_wp2_with fail
        go_roundg (gk - 1)
        case measure => omega
        case rel =>
          exact ⟨j + 1, by omega, by go_num, hB.trans (sb5.mono (Nat.le_of_lt hlt)), hide (fun i hi => by rw [HE.out]; exact (HF.out i hi).below sb5 (Nat.le_refl _)), fun i => frozen_below sb5 hlt (hfr i)⟩
      · obtain ⟨hneg, hge⟩ := why_neg hi hno hj hT0
        obtain rfl : C = -1 := by rw [← HC.out, ordQ_eq, if_pos hneg]
        have HE : Hid (whyK S t l (j + 1) = put (whyK S t l j) (t.col j - S.n) (-(t.T l j))) := hide (if_neg hT0)
        obtain ⟨D, he⟩ : ∃ D, v = S.n + D := ⟨v - S.n, by have := HV.out; omega⟩
        have hD : D < S.m := by have := hi.at'.colLt j hj; have := HV.out; omega
        have HDD : Hid (t.col j - S.n = D) := hide (by have := HV.out; omega)
        have e4 : (v : Int) - (S.n : Int) = (D : Int) := by omega
        have e6 : (D : Int) < (S.m : Int) := by omega
        have e7 : IntKind.i64.wrap (D : Int) = (D : Int) := IntWalk.i64_in _ (by omega)
        replace he := hide he
        clear hT0 hneg hge
        have hx5 := hx2.below hb5 (Nat.le_refl _)
        have c0 := cellB b0 hb5 (Nat.le_refl _)
        have c1 := cellB b1 hb5 (Nat.le_refl _)
        have c2 := cellB b2 hb5 (Nat.le_refl _)
        have c3 := cellB b3 hb5 (Nat.le_refl _)
        have k0 := (hT.below (by rw [hGG.out]; exact hB.trans (sb5.mono (Nat.le_of_lt hlt)))).c0
        clear b0 b1 b2 b3 bx hx2
        go_upto_region 8 with (fail)
        refine wp_region_till (S := fun w' => w'.cell? ⟨L.p, 0, none⟩ = some (.int .i64 (S.n : Int)) ∧ w'.cell? ⟨wr.heap.size, 0, none⟩ = some (.bool xn) ∧ w'.cell? ⟨wr.heap.size, 1, none⟩ = some (.slice xa xl xk) ∧ w'.cell? ⟨wr.heap.size, 2, none⟩ = some (.bool xm) ∧ w'.cell? ⟨wr.heap.size, 3, none⟩ = some (.slice xb xi xj) ∧ Below w5.heap.size w5 w') (fun i => decide (i < 9)) (by kernel_rfl) (⟨k0, c0, c1, c2, c3, (Below.refl _ _).drew⟩) (fun hS => ?_)
        refine Till_take (i := 0) (oi := ⟨some 54, Op.move (Operand.tmp 5), 25, "simplex.go:133", #[], none⟩) (v := ?_) rfl (by kernel_rfl) (by kernel_rfl) (by kernel_rfl) (fun _ _ _ h => h) rfl (by kernel_rfl) (Or.inl ⟨by rfl, ?_⟩) hS ?_
        rotate_left
        · (intro w' hSw; (try dsimp only at hSw); go_simp; try with_reducible rfl)
        try simp only [Act.put, sB, sC, sD]
        refine Till_take (i := 1) (oi := ⟨some 55, Op.move (Operand.tmp 7), 3, "simplex.go:133", #[], none⟩) (v := ?_) rfl (by kernel_rfl) (by kernel_rfl) (by kernel_rfl) (fun _ _ _ h => h) rfl (by kernel_rfl) (Or.inl ⟨by rfl, ?_⟩) hS ?_
        rotate_left
        · (intro w' hSw; (try dsimp only at hSw); go_simp; try with_reducible rfl)
        try simp only [Act.put, sB, sC, sD]
        refine Till_take (i := 2) (oi := ⟨some 56, Op.move (Operand.tmp 0), 53, "simplex.go:133", #[], none⟩) (v := ?_) rfl (by kernel_rfl) (by kernel_rfl) (by kernel_rfl) (fun _ _ _ h => h) rfl (by kernel_rfl) (Or.inl ⟨by rfl, ?_⟩) hS ?_
        rotate_left
        · (intro w' hSw; (try dsimp only at hSw); go_simp; try with_reducible rfl)
        try simp only [Act.put, sB, sC, sD]
        refine Till_take (i := 3) (oi := ⟨some 57, Op.nilCheck (Operand.tmp 56), 0, "simplex.go:133", #[eD 2], none⟩) (v := ?_) rfl (by kernel_rfl) (by kernel_rfl) (by kernel_rfl) (fun _ _ _ h => h) rfl (by kernel_rfl) (Or.inl ⟨by rfl, ?_⟩) hS ?_
        rotate_left
        · (intro w' hSw; (try dsimp only at hSw); go_simp; try with_reducible rfl)
        try simp only [Act.put, sB, sC, sD]
        refine Till_take (i := 4) (oi := ⟨some 58, Op.fieldAddr 61 (Operand.tmp 57) 0, 0, "simplex.go:133", #[eD 3], none⟩) (v := ?_) rfl (by kernel_rfl) (by kernel_rfl) (by kernel_rfl) (fun _ _ _ h => h) rfl (by kernel_rfl) (Or.inl ⟨by rfl, ?_⟩) hS ?_
        rotate_left
        · (intro w' hSw; (try dsimp only at hSw); go_simp; try with_reducible rfl)
        try simp only [Act.put, sB, sC, sD]
        refine Till_take (i := 5) (oi := ⟨some 59, Op.load 3 (Operand.tmp 58), 3, "simplex.go:133", #[eD 4], none⟩) (v := ?_) rfl (by kernel_rfl) (by kernel_rfl) (by kernel_rfl) (fun _ _ _ h => h) rfl (by kernel_rfl) (Or.inl ⟨by rfl, ?_⟩) hS ?_
        rotate_left
        · (intro w' hSw; (try dsimp only at hSw); go_simp; try with_reducible rfl)
        try simp only [Act.put, sB, sC, sD]
        refine Till_take (i := 6) (oi := ⟨some 60, Op.binOp BinOp.sub 3 (Operand.tmp 55) (Operand.tmp 59) 3, 3, "simplex.go:133", #[eD 1, eD 5], none⟩) (v := ?_) rfl (by kernel_rfl) (by kernel_rfl) (by kernel_rfl) (fun _ _ _ h => h) rfl (by kernel_rfl) (Or.inl ⟨by rfl, ?_⟩) hS ?_
        rotate_left
        · (intro w' hSw; (try dsimp only at hSw); go_simp; try with_reducible rfl)
        try simp only [Act.put, sB, sC, sD]
        refine Till_take (i := 7) (oi := ⟨some 61, Op.load 39 (Operand.tmp 8), 39, "simplex.go:133", #[], none⟩) (v := ?_) rfl (by kernel_rfl) (by kernel_rfl) (by kernel_rfl) (fun _ _ _ h => h) rfl (by kernel_rfl) (Or.inl ⟨by rfl, ?_⟩) hS ?_
        rotate_left
        · (intro w' hSw; (try dsimp only at hSw); go_simp; try with_reducible rfl)
        try simp only [Act.put, sB, sC, sD]
        refine Till_ready (rs := [8]) (by kernel_rfl) (by kernel_rfl) (by simp) ?_
        refine AllReadyT.cons (o := ⟨some 62, Op.call { callee := Callee.value (Operand.func 17), args := #[Operand.tmp 61], argTypes := #[39] }, 39, "simplex.go:133", #[eD 7], none⟩) rfl (fun K hK => ?_) AllReadyT.nil
        go_simp
        (go_at_call 17; (with_reducible refine (FNeg_any _ (hx5.below hS.2.2.2.2.2 (Nat.le_refl _)) zx).mono ?_); rintro e wN ⟨rN, rfl, hN, hb1⟩)
        obtain ⟨yn, ya, yl, yk, ym, yb, yi, yj, rfl, -, -⟩ := FracV.parts hN
        go_wp2_with fail
        refine hK.out _ _ (keepZ5 hS hb1) (fun hS => ?_)
        clear hK K hb1
        try simp only [Act.put, sB, sC, sD]
        refine Till_turn (by kernel_rfl) ?_
        refine wpAnyH_take (i := 9) (oi := ⟨some 63, Op.indexAddr 25 (Operand.tmp 54) (Operand.tmp 60), 0, "simplex.go:133", #[eD 0, eD 6, eP 0, eP 1, eP 2, eP 3, eP 4, eP 5, eP 6, eP 7, eP 8], none⟩) (v := ?_) rfl (by kernel_rfl) (by kernel_rfl) (by kernel_rfl) (fun _ _ _ h => h) (Or.inl ⟨by rfl, ?_⟩) trivial ?_
        rotate_left
        · (intro w' hSw; (try dsimp only at hSw); go_simp; try with_reducible rfl)
        try simp only [Act.put, sB, sC, sD]
        refine wpAnyH_ready (rs := [10]) (by kernel_rfl) (by simp) ?_
        refine AllReadyH.cons (o := ⟨none, Op.store 39 (Operand.tmp 63) (Operand.tmp 62), 0, "simplex.go:133", #[eD 9, eD 8, eC 8, eP 0, eP 1, eP 2, eP 3, eP 4, eP 5, eP 6, eP 7, eP 8], none⟩) rfl (fun K hK => ?_) AllReadyH.nil
        have hB4 := sb5.trans (hS.2.2.2.2.2.mono sb5.size)
        have HF5 : Hid (∀ i, i < S.m → FAt wN G (i * 4) (whyK S t l j i)) := hide (fun i hi => (HF.out i hi).below hB4 (Nat.le_refl _))
        have hfr5 : ∀ i, wN.frozen? ⟨G, i, none⟩ = false := fun i => frozen_below hB4 hlt (hfr i)
        have hB5 : Below G w wN := hB.trans (hB4.mono (Nat.le_of_lt hlt))
        have hq := hN
        obtain ⟨_, _, _, _, _, _, _, _, z0, z1, z2, z3, -⟩ := HF5.out D hD
        have f0 := hfr5 (D * 4)
        have f1 := hfr5 (D * 4 + 1)
        have f2 := hfr5 (D * 4 + 2)
        have f3 := hfr5 (D * 4 + 3)
        obtain ⟨W3, hW3⟩ : ∃ W3, put4 wN G (D * 4) (.bool yn) (.slice ya yl yk) (.bool ym) (.slice yb yi yj) = W3 := ⟨_, rfl⟩
        have hB3 : Below G w W3 := by rw [← hW3]; exact below_put4 hB5 (Nat.le_refl G) _ _ _ _
        have hfr3 : ∀ i, W3.frozen? ⟨G, i, none⟩ = false := fun i => by rw [← hW3]; exact (frozen_put4 _ _ _ _ _ _ _ _).trans (hfr5 i)
        have HF3 : Hid (∀ i, i < S.m → FAt W3 G (i * 4) (whyK S t l (j + 1) i)) := hide (by rw [← hW3]; rw [HE.out, HDD.out]; exact rows_put HF5.out (by omega) hq)
        simp only [put4] at hW3
        have HW3 := hide hW3
        clear hW3
        go_simp
        refine hK.out _ _ trivial (fun _ => ?_)
        clear hK K z0 z1 z2 z3 f0 f1 f2 f3
        try simp only [Act.put, sB, sC, sD]
        refine wpAnyH_done (by kernel_rfl) ?_ _
        rw [HW3.out]
        clear HW3 hS c0 c1 c2 c3 k0 e4 e6 e7
        go_wp2_with fail
        go_roundg (gk - 1)
        case measure => omega
        case rel => exact ⟨j + 1, by omega, by go_num, hB3, HF3, hfr3⟩
end Go.Proofs.YtphjffbldhhdiaaGreatDoor
