/- simplex's way: by its contract. -/
import Derived.Test.YtphjffbldhhdiaaGreatDoorSxOver
namespace Go.Proofs.YtphjffbldhhdiaaGreatDoor
open Go.RowKit

theorem sign_at {c : World} {p : Rat} {u : Value} {C : Int} (hx : FracV c u p) (hp : Qz p) (hC : ordQ p 0 = C) : Calls Tryz.prog 56 #[u] c fun e w' => e = .returned (.int .i64 C) ∧ Below c.heap.size c w' := by
  subst hC; exact sign_any c hx hp

theorem ordQ_neg0 (p q : Rat) : ordQ p q < 0 ↔ p < q := by
  rw [ordQ_eq]
  constructor
  · intro h
    split at h
    · assumption
    · split at h <;> omega
  · intro h
    rw [if_pos h]
    decide

set_option maxRecDepth 100000 in
set_option maxHeartbeats 3200000 in
theorem way1_any {S : Sys} {s M : Nat} (hf : Fair S s M) {t : Sim} (hi : Inv S t) {L : Spots} {bx by_ l c : Nat} {w : World} (hT : TabV w S t L) (hb : w.cell? ⟨bx, 0, none⟩ = some (.pointer (some ⟨L.p, 0, none⟩))) (hb2 : w.cell? ⟨by_, 0, none⟩ = some (.int .i64 (l : Int))) (hl : l < S.m) (hc : c < S.n) {r : Bool} (hr : r = true ↔ S.Free t l c) :
    Calls Tryz.prog 55 #[.int .i64 (c : Int), .pointer (some ⟨bx, 0, none⟩), .pointer (some ⟨by_, 0, none⟩)] w fun e w' => e = .returned (.bool r) ∧ Below w.heap.size w w' := by
  obtain ⟨hn, hm⟩ := And.intro hf.n hf.m
  have hk := hT.col c hc
  have hv := hi.at'.colLt c hc
  have k4 := hT.c4
  rw [hT.ac (by omega)] at k4
  have k5 := hT.c5
  rw [hT.ax (by omega)] at k5
  have kr := hT.rows l hl
  rw [hT.ra l hl (by omega)] at kr
  have k0 := hT.c0
  obtain ⟨xn, xa, xl, xk, xm, xb, xi, xj, x0, x1, x2, x3, hx⟩ := hT.T l c hl hc
  have zx : Qz (t.T l c) := (hf.T hi hl hc).z (by decide)
  have HR := hide hr
  clear hr
  have cl : (l : Int) < (S.m : Int) := by omega
  have cc : (c : Int) < (S.n : Int) := by omega
  obtain ⟨C, hC⟩ : ∃ C, ordQ (t.T l c) 0 = C := ⟨_, rfl⟩
  have HC := hide hC
  clear hC
  have hS0 : w.cell? ⟨bx, 0, none⟩ = some (.pointer (some ⟨L.p, 0, none⟩)) ∧ w.cell? ⟨by_, 0, none⟩ = some (.int .i64 (l : Int)) ∧ w.cell? ⟨L.p, 0, none⟩ = some (.int .i64 (S.n : Int)) ∧ w.cell? ⟨L.p, 4, none⟩ = some (.slice (some ⟨L.gc, 0, none⟩) S.n L.kc) ∧ w.cell? ⟨L.gc, c, none⟩ = some (.int .i64 (t.col c : Int)) ∧ w.cell? ⟨L.p, 5, none⟩ = some (.slice (some ⟨L.gx, 0, none⟩) S.m L.kx) ∧ w.cell? ⟨L.gx, l, none⟩ = some (.slice (some ⟨L.row l, 0, none⟩) S.n (L.rk l)) ∧ w.cell? ⟨L.row l, c * 4, none⟩ = some (.bool xn) ∧ w.cell? ⟨L.row l, c * 4 + 1, none⟩ = some (.slice xa xl xk) ∧ w.cell? ⟨L.row l, c * 4 + 2, none⟩ = some (.bool xm) ∧ w.cell? ⟨L.row l, c * 4 + 3, none⟩ = some (.slice xb xi xj) ∧ w.cell? ⟨bx, 0, none⟩ = some (.pointer (some ⟨L.p, 0, none⟩)) ∧ Below w.heap.size w w.drew := ⟨hb, hb2, k0, k4, hk, k5, kr, x0, x1, x2, x3, hb, (Below.refl _ _).drew⟩
  clear hb hb2 k0 k4 hk k5 kr x0 x1 x2 x3
  go_enter Tryz.func55, Tryz.ntmps55
  go_upto_region 1 with (fail)
  refine wp_region_held_drew (S := fun w' => w'.cell? ⟨bx, 0, none⟩ = some (.pointer (some ⟨L.p, 0, none⟩)) ∧ w'.cell? ⟨by_, 0, none⟩ = some (.int .i64 (l : Int)) ∧ w'.cell? ⟨L.p, 0, none⟩ = some (.int .i64 (S.n : Int)) ∧ w'.cell? ⟨L.p, 4, none⟩ = some (.slice (some ⟨L.gc, 0, none⟩) S.n L.kc) ∧ w'.cell? ⟨L.gc, c, none⟩ = some (.int .i64 (t.col c : Int)) ∧ w'.cell? ⟨L.p, 5, none⟩ = some (.slice (some ⟨L.gx, 0, none⟩) S.m L.kx) ∧ w'.cell? ⟨L.gx, l, none⟩ = some (.slice (some ⟨L.row l, 0, none⟩) S.n (L.rk l)) ∧ w'.cell? ⟨L.row l, c * 4, none⟩ = some (.bool xn) ∧ w'.cell? ⟨L.row l, c * 4 + 1, none⟩ = some (.slice xa xl xk) ∧ w'.cell? ⟨L.row l, c * 4 + 2, none⟩ = some (.bool xm) ∧ w'.cell? ⟨L.row l, c * 4 + 3, none⟩ = some (.slice xb xi xj) ∧ w'.cell? ⟨bx, 0, none⟩ = some (.pointer (some ⟨L.p, 0, none⟩)) ∧ Below w.heap.size w w') (by kernel_rfl) (hS0) (fun hS => ?_)
  refine wpAnyH_take (i := 0) (oi := ⟨some 7, Op.load 53 (Operand.tmp 1), 53, "simplex.go:112", #[], none⟩) (v := ?_) rfl (by kernel_rfl) (by kernel_rfl) (by kernel_rfl) (fun _ _ _ h => h) (Or.inl ⟨by rfl, ?_⟩) hS ?_
  rotate_left
  · (intro w' hSw; (try dsimp only at hSw); go_simp; try with_reducible rfl)
  try simp only [Act.put, sB, sC, sD]
  refine wpAnyH_take (i := 1) (oi := ⟨some 8, Op.nilCheck (Operand.tmp 7), 0, "simplex.go:112", #[eD 0], none⟩) (v := ?_) rfl (by kernel_rfl) (by kernel_rfl) (by kernel_rfl) (fun _ _ _ h => h) (Or.inl ⟨by rfl, ?_⟩) hS ?_
  rotate_left
  · (intro w' hSw; (try dsimp only at hSw); go_simp; try with_reducible rfl)
  try simp only [Act.put, sB, sC, sD]
  refine wpAnyH_take (i := 2) (oi := ⟨some 9, Op.fieldAddr 61 (Operand.tmp 8) 4, 0, "simplex.go:112", #[eD 1], none⟩) (v := ?_) rfl (by kernel_rfl) (by kernel_rfl) (by kernel_rfl) (fun _ _ _ h => h) (Or.inl ⟨by rfl, ?_⟩) hS ?_
  rotate_left
  · (intro w' hSw; (try dsimp only at hSw); go_simp; try with_reducible rfl)
  try simp only [Act.put, sB, sC, sD]
  refine wpAnyH_take (i := 3) (oi := ⟨some 10, Op.load 58 (Operand.tmp 9), 58, "simplex.go:112", #[eD 2], none⟩) (v := ?_) rfl (by kernel_rfl) (by kernel_rfl) (by kernel_rfl) (fun _ _ _ h => h) (Or.inl ⟨by rfl, ?_⟩) hS ?_
  rotate_left
  · (intro w' hSw; (try dsimp only at hSw); go_simp; try with_reducible rfl)
  try simp only [Act.put, sB, sC, sD]
  refine wpAnyH_take (i := 4) (oi := ⟨some 11, Op.move (Operand.tmp 0), 3, "simplex.go:112", #[], none⟩) (v := ?_) rfl (by kernel_rfl) (by kernel_rfl) (by kernel_rfl) (fun _ _ _ h => h) (Or.inl ⟨by rfl, ?_⟩) hS ?_
  rotate_left
  · (intro w' hSw; (try dsimp only at hSw); go_simp; try with_reducible rfl)
  try simp only [Act.put, sB, sC, sD]
  refine wpAnyH_take (i := 5) (oi := ⟨some 12, Op.indexAddr 58 (Operand.tmp 10) (Operand.tmp 11), 0, "simplex.go:112", #[eD 3, eD 4], none⟩) (v := ?_) rfl (by kernel_rfl) (by kernel_rfl) (by kernel_rfl) (fun _ _ _ h => h) (Or.inl ⟨by rfl, ?_⟩) hS ?_
  rotate_left
  · (intro w' hSw; (try dsimp only at hSw); go_simp; try with_reducible rfl)
  try simp only [Act.put, sB, sC, sD]
  refine wpAnyH_take (i := 6) (oi := ⟨some 13, Op.load 3 (Operand.tmp 12), 3, "simplex.go:112", #[eD 5], none⟩) (v := ?_) rfl (by kernel_rfl) (by kernel_rfl) (by kernel_rfl) (fun _ _ _ h => h) (Or.inl ⟨by rfl, ?_⟩) hS ?_
  rotate_left
  · (intro w' hSw; (try dsimp only at hSw); go_simp; try with_reducible rfl)
  try simp only [Act.put, sB, sC, sD]
  refine wpAnyH_take (i := 7) (oi := ⟨some 14, Op.load 53 (Operand.tmp 1), 53, "simplex.go:112", #[], none⟩) (v := ?_) rfl (by kernel_rfl) (by kernel_rfl) (by kernel_rfl) (fun _ _ _ h => h) (Or.inl ⟨by rfl, ?_⟩) hS ?_
  rotate_left
  · (intro w' hSw; (try dsimp only at hSw); go_simp; try with_reducible rfl)
  try simp only [Act.put, sB, sC, sD]
  refine wpAnyH_take (i := 8) (oi := ⟨some 15, Op.nilCheck (Operand.tmp 14), 0, "simplex.go:112", #[eD 7], none⟩) (v := ?_) rfl (by kernel_rfl) (by kernel_rfl) (by kernel_rfl) (fun _ _ _ h => h) (Or.inl ⟨by rfl, ?_⟩) hS ?_
  rotate_left
  · (intro w' hSw; (try dsimp only at hSw); go_simp; try with_reducible rfl)
  try simp only [Act.put, sB, sC, sD]
  refine wpAnyH_take (i := 9) (oi := ⟨some 16, Op.fieldAddr 61 (Operand.tmp 15) 5, 0, "simplex.go:112", #[eD 8], none⟩) (v := ?_) rfl (by kernel_rfl) (by kernel_rfl) (by kernel_rfl) (fun _ _ _ h => h) (Or.inl ⟨by rfl, ?_⟩) hS ?_
  rotate_left
  · (intro w' hSw; (try dsimp only at hSw); go_simp; try with_reducible rfl)
  try simp only [Act.put, sB, sC, sD]
  refine wpAnyH_take (i := 10) (oi := ⟨some 17, Op.load 59 (Operand.tmp 16), 59, "simplex.go:112", #[eD 9], none⟩) (v := ?_) rfl (by kernel_rfl) (by kernel_rfl) (by kernel_rfl) (fun _ _ _ h => h) (Or.inl ⟨by rfl, ?_⟩) hS ?_
  rotate_left
  · (intro w' hSw; (try dsimp only at hSw); go_simp; try with_reducible rfl)
  try simp only [Act.put, sB, sC, sD]
  refine wpAnyH_take (i := 11) (oi := ⟨some 18, Op.load 3 (Operand.tmp 2), 3, "simplex.go:112", #[], none⟩) (v := ?_) rfl (by kernel_rfl) (by kernel_rfl) (by kernel_rfl) (fun _ _ _ h => h) (Or.inl ⟨by rfl, ?_⟩) hS ?_
  rotate_left
  · (intro w' hSw; (try dsimp only at hSw); go_simp; try with_reducible rfl)
  try simp only [Act.put, sB, sC, sD]
  refine wpAnyH_take (i := 12) (oi := ⟨some 19, Op.indexAddr 59 (Operand.tmp 17) (Operand.tmp 18), 0, "simplex.go:112", #[eD 10, eD 11], none⟩) (v := ?_) rfl (by kernel_rfl) (by kernel_rfl) (by kernel_rfl) (fun _ _ _ h => h) (Or.inl ⟨by rfl, ?_⟩) hS ?_
  rotate_left
  · (intro w' hSw; (try dsimp only at hSw); go_simp; try with_reducible rfl)
  try simp only [Act.put, sB, sC, sD]
  refine wpAnyH_take (i := 13) (oi := ⟨some 20, Op.load 25 (Operand.tmp 19), 25, "simplex.go:112", #[eD 12], none⟩) (v := ?_) rfl (by kernel_rfl) (by kernel_rfl) (by kernel_rfl) (fun _ _ _ h => h) (Or.inl ⟨by rfl, ?_⟩) hS ?_
  rotate_left
  · (intro w' hSw; (try dsimp only at hSw); go_simp; try with_reducible rfl)
  try simp only [Act.put, sB, sC, sD]
  refine wpAnyH_take (i := 14) (oi := ⟨some 21, Op.move (Operand.tmp 0), 3, "simplex.go:112", #[], none⟩) (v := ?_) rfl (by kernel_rfl) (by kernel_rfl) (by kernel_rfl) (fun _ _ _ h => h) (Or.inl ⟨by rfl, ?_⟩) hS ?_
  rotate_left
  · (intro w' hSw; (try dsimp only at hSw); go_simp; try with_reducible rfl)
  try simp only [Act.put, sB, sC, sD]
  refine wpAnyH_take (i := 15) (oi := ⟨some 22, Op.indexAddr 25 (Operand.tmp 20) (Operand.tmp 21), 0, "simplex.go:112", #[eD 13, eD 14], none⟩) (v := ?_) rfl (by kernel_rfl) (by kernel_rfl) (by kernel_rfl) (fun _ _ _ h => h) (Or.inl ⟨by rfl, ?_⟩) hS ?_
  rotate_left
  · (intro w' hSw; (try dsimp only at hSw); go_simp; try with_reducible rfl)
  try simp only [Act.put, sB, sC, sD]
  refine wpAnyH_take (i := 16) (oi := ⟨some 23, Op.load 39 (Operand.tmp 22), 39, "simplex.go:112", #[eD 15], none⟩) (v := ?_) rfl (by kernel_rfl) (by kernel_rfl) (by kernel_rfl) (fun _ _ _ h => h) (Or.inl ⟨by rfl, ?_⟩) hS ?_
  rotate_left
  · (intro w' hSw; (try dsimp only at hSw); go_simp; try with_reducible rfl)
  try simp only [Act.put, sB, sC, sD]
  refine wpAnyH_ready (rs := [17]) (by kernel_rfl) (by simp) ?_
  refine AllReadyH.cons (o := ⟨some 24, Op.call { callee := Callee.value (Operand.func 56), args := #[Operand.tmp 23], argTypes := #[39] }, 3, "simplex.go:112", #[eD 16], none⟩) rfl (fun K hK => ?_) AllReadyH.nil
  go_simp
  (go_at_call 56; (with_reducible refine (sign_at (hx.below (hS.2.2.2.2.2.2.2.2.2.2.2.2) (Nat.le_refl _)) zx HC.out).mono ?_); rintro e wn ⟨rfl, hb1⟩)
  go_wp2_with fail
  refine hK.out _ _ (keepZ12 hS hb1) (fun hS => ?_)
  clear hK K hb1
  try simp only [Act.put, sB, sC, sD]
  refine wpAnyH_take (i := 18) (oi := ⟨some 5, Op.assign (Operand.tmp 13), 3, "simplex.go:112", #[eD 6, eC 17, eP 0, eP 1, eP 2, eP 3, eP 4, eP 5, eP 6, { on := 7, ground := Ground.textOnly Departure.lateStores }, { on := 8, ground := Ground.textOnly Departure.lateStores }, { on := 9, ground := Ground.textOnly Departure.lateStores }, { on := 10, ground := Ground.textOnly Departure.lateStores }, { on := 11, ground := Ground.textOnly Departure.lateStores }, { on := 12, ground := Ground.textOnly Departure.lateStores }, { on := 13, ground := Ground.textOnly Departure.lateStores }, { on := 14, ground := Ground.textOnly Departure.lateStores }, { on := 15, ground := Ground.textOnly Departure.lateStores }, { on := 16, ground := Ground.textOnly Departure.lateStores }, { on := 17, ground := Ground.textOnly Departure.lateStoresUnsure }], none⟩) (v := ?_) rfl (by kernel_rfl) (by kernel_rfl) (by kernel_rfl) (fun _ _ _ h => h) (Or.inl ⟨by rfl, ?_⟩) hS ?_
  rotate_left
  · (intro w' hSw; (try dsimp only at hSw); go_simp; try with_reducible rfl)
  try simp only [Act.put, sB, sC, sD]
  refine wpAnyH_take (i := 19) (oi := ⟨some 6, Op.assign (Operand.tmp 24), 3, "simplex.go:112", #[eD 17, eC 18, eP 0, eP 1, eP 2, eP 3, eP 4, eP 5, eP 6, eP 7, eP 8, eP 9, eP 10, eP 11, eP 12, eP 13, eP 14, eP 15, eP 16, eP 17, eP 18], none⟩) (v := ?_) rfl (by kernel_rfl) (by kernel_rfl) (by kernel_rfl) (fun _ _ _ h => h) (Or.inl ⟨by rfl, ?_⟩) hS ?_
  rotate_left
  · (intro w' hSw; (try dsimp only at hSw); go_simp; try with_reducible rfl)
  try simp only [Act.put, sB, sC, sD]
  refine wpAnyH_done (by kernel_rfl) ?_ _
  obtain ⟨hb, -, k0, -, -, -, -, -, -, -, -, -, hB⟩ := hS
  have hT2 := hT.below hB
  rcases ordQ_cases (t.T l c) 0 with ⟨h1, h2⟩ | ⟨h1, h2⟩ | ⟨h1, h2⟩
  · obtain rfl : C = -1 := HC.out.symm.trans h2
    rcases Nat.lt_or_ge (t.col c) S.n with hlt | hge
    · obtain rfl : r = true := HR.out.mpr (by unfold Sys.Free; rw [if_pos (.inr hlt)]; grind)
      have e1 : decide ((t.col c : Int) < (S.n : Int)) = true := decide_eq_true (by omega)
      have e2 : (t.col c : Int) < (S.n : Int) := by omega
      clear HR HC hT hT2 hi hf
      go_wp2_with fail
      go_ret
      exact ⟨rfl, hB⟩
    · obtain ⟨D, he⟩ : ∃ D, t.col c = S.n + D := ⟨t.col c - S.n, by omega⟩
      have hD : D < S.m := by omega
      have k1 := hT2.c1
      have k2 := hT2.c2
      rw [hT.am (by omega)] at k1
      rw [hT.av (by omega)] at k2
      obtain ⟨yn, ya, yl, yk, ym, yb, yi, yj, y0, y1, y2, y3, hy⟩ := hT2.val (S.n + D) (by omega)
      obtain ⟨un, ua, ul, uk, um, ub, ui, uj, u0, u1, u2, u3, hu⟩ := hT2.most D hD
      have zy : Qz (t.val (S.n + D)) := (hf.val hi (by omega)).z (by decide)
      have zu : Qz (S.most D) := (hf.mostZ hD).z (by decide)
      obtain ⟨E, hE⟩ : ∃ E, ordQ (t.val (S.n + D)) (S.most D) = E := ⟨_, rfl⟩
      have HRR : Hid (r = decide (E < 0)) := hide (by
        rw [Bool.eq_iff_iff, HR.out, decide_eq_true_iff, ← hE]
        unfold Sys.Free
        rw [if_neg (by intro h; rcases h with h | h; grind; omega), he, show S.n + D - S.n = D from by omega]
        exact (ordQ_neg0 _ _).symm)
      have HE := hide hE
      clear HR HC hE
      have hrr := HRR.out
      clear HRR
      subst hrr
      rw [← he] at y0 y1 y2 y3
      generalize t.col c = v at *
      generalize t.val (S.n + D) = Y at *
      generalize S.most D = U at *
      generalize S.n = n at *
      generalize S.m = m at *
      clear hT hT2 hi hf
      have e1 : decide ((v : Int) < (n : Int)) = false := decide_eq_false (by omega)
      have e2 : ¬((v : Int) < (n : Int)) := by omega
      have e4 : (v : Int) - (n : Int) = (D : Int) := by omega
      have e5 : (v : Int) < (n : Int) + (m : Int) := by omega
      have e6 : (D : Int) < (m : Int) := by omega
      have e7 : IntKind.i64.wrap (D : Int) = (D : Int) := IntWalk.i64_in _ (by omega)
      replace he := hide he
      clear h1 h2
      go_upto_region 4 with (fail)
      have hS0 : wn.cell? ⟨bx, 0, none⟩ = some (.pointer (some ⟨L.p, 0, none⟩)) ∧ wn.cell? ⟨L.p, 0, none⟩ = some (.int .i64 (n : Int)) ∧ wn.cell? ⟨L.p, 1, none⟩ = some (.slice (some ⟨L.gm, 0, none⟩) m L.km) ∧ wn.cell? ⟨L.p, 2, none⟩ = some (.slice (some ⟨L.gv, 0, none⟩) (n + m) L.kv) ∧ wn.cell? ⟨L.gv, v * 4, none⟩ = some (.bool yn) ∧ wn.cell? ⟨L.gv, v * 4 + 1, none⟩ = some (.slice ya yl yk) ∧ wn.cell? ⟨L.gv, v * 4 + 2, none⟩ = some (.bool ym) ∧ wn.cell? ⟨L.gv, v * 4 + 3, none⟩ = some (.slice yb yi yj) ∧ wn.cell? ⟨L.gm, D * 4, none⟩ = some (.bool un) ∧ wn.cell? ⟨L.gm, D * 4 + 1, none⟩ = some (.slice ua ul uk) ∧ wn.cell? ⟨L.gm, D * 4 + 2, none⟩ = some (.bool um) ∧ wn.cell? ⟨L.gm, D * 4 + 3, none⟩ = some (.slice ub ui uj) ∧ Below wn.heap.size wn wn.drew := ⟨hb, k0, k1, k2, y0, y1, y2, y3, u0, u1, u2, u3, (Below.refl _ _).drew⟩
      clear hb k0 k1 k2 y0 y1 y2 y3 u0 u1 u2 u3
      refine wp_region_held_drew (S := fun w' => w'.cell? ⟨bx, 0, none⟩ = some (.pointer (some ⟨L.p, 0, none⟩)) ∧ w'.cell? ⟨L.p, 0, none⟩ = some (.int .i64 (n : Int)) ∧ w'.cell? ⟨L.p, 1, none⟩ = some (.slice (some ⟨L.gm, 0, none⟩) m L.km) ∧ w'.cell? ⟨L.p, 2, none⟩ = some (.slice (some ⟨L.gv, 0, none⟩) (n + m) L.kv) ∧ w'.cell? ⟨L.gv, v * 4, none⟩ = some (.bool yn) ∧ w'.cell? ⟨L.gv, v * 4 + 1, none⟩ = some (.slice ya yl yk) ∧ w'.cell? ⟨L.gv, v * 4 + 2, none⟩ = some (.bool ym) ∧ w'.cell? ⟨L.gv, v * 4 + 3, none⟩ = some (.slice yb yi yj) ∧ w'.cell? ⟨L.gm, D * 4, none⟩ = some (.bool un) ∧ w'.cell? ⟨L.gm, D * 4 + 1, none⟩ = some (.slice ua ul uk) ∧ w'.cell? ⟨L.gm, D * 4 + 2, none⟩ = some (.bool um) ∧ w'.cell? ⟨L.gm, D * 4 + 3, none⟩ = some (.slice ub ui uj) ∧ Below wn.heap.size wn w') (by kernel_rfl) (hS0) (fun hS => ?_)
      refine wpAnyH_take (i := 0) (oi := ⟨some 37, Op.load 53 (Operand.tmp 1), 53, "simplex.go:116", #[], none⟩) (v := ?_) rfl (by kernel_rfl) (by kernel_rfl) (by kernel_rfl) (fun _ _ _ h => h) (Or.inl ⟨by rfl, ?_⟩) hS ?_
      rotate_left
      · (intro w' hSw; (try dsimp only at hSw); go_simp; try with_reducible rfl)
      try simp only [Act.put, sB, sC, sD]
      refine wpAnyH_take (i := 1) (oi := ⟨some 38, Op.nilCheck (Operand.tmp 37), 0, "simplex.go:116", #[eD 0], none⟩) (v := ?_) rfl (by kernel_rfl) (by kernel_rfl) (by kernel_rfl) (fun _ _ _ h => h) (Or.inl ⟨by rfl, ?_⟩) hS ?_
      rotate_left
      · (intro w' hSw; (try dsimp only at hSw); go_simp; try with_reducible rfl)
      try simp only [Act.put, sB, sC, sD]
      refine wpAnyH_take (i := 2) (oi := ⟨some 39, Op.fieldAddr 61 (Operand.tmp 38) 2, 0, "simplex.go:116", #[eD 1], none⟩) (v := ?_) rfl (by kernel_rfl) (by kernel_rfl) (by kernel_rfl) (fun _ _ _ h => h) (Or.inl ⟨by rfl, ?_⟩) hS ?_
      rotate_left
      · (intro w' hSw; (try dsimp only at hSw); go_simp; try with_reducible rfl)
      try simp only [Act.put, sB, sC, sD]
      refine wpAnyH_take (i := 3) (oi := ⟨some 40, Op.load 25 (Operand.tmp 39), 25, "simplex.go:116", #[eD 2], none⟩) (v := ?_) rfl (by kernel_rfl) (by kernel_rfl) (by kernel_rfl) (fun _ _ _ h => h) (Or.inl ⟨by rfl, ?_⟩) hS ?_
      rotate_left
      · (intro w' hSw; (try dsimp only at hSw); go_simp; try with_reducible rfl)
      try simp only [Act.put, sB, sC, sD]
      refine wpAnyH_take (i := 4) (oi := ⟨some 41, Op.move (Operand.tmp 5), 3, "simplex.go:116", #[], none⟩) (v := ?_) rfl (by kernel_rfl) (by kernel_rfl) (by kernel_rfl) (fun _ _ _ h => h) (Or.inl ⟨by rfl, ?_⟩) hS ?_
      rotate_left
      · (intro w' hSw; (try dsimp only at hSw); go_simp; try with_reducible rfl)
      try simp only [Act.put, sB, sC, sD]
      refine wpAnyH_take (i := 5) (oi := ⟨some 42, Op.indexAddr 25 (Operand.tmp 40) (Operand.tmp 41), 0, "simplex.go:116", #[eD 3, eD 4], none⟩) (v := ?_) rfl (by kernel_rfl) (by kernel_rfl) (by kernel_rfl) (fun _ _ _ h => h) (Or.inl ⟨by rfl, ?_⟩) hS ?_
      rotate_left
      · (intro w' hSw; (try dsimp only at hSw); go_simp; try with_reducible rfl)
      try simp only [Act.put, sB, sC, sD]
      refine wpAnyH_take (i := 6) (oi := ⟨some 43, Op.load 39 (Operand.tmp 42), 39, "simplex.go:116", #[eD 5], none⟩) (v := ?_) rfl (by kernel_rfl) (by kernel_rfl) (by kernel_rfl) (fun _ _ _ h => h) (Or.inl ⟨by rfl, ?_⟩) hS ?_
      rotate_left
      · (intro w' hSw; (try dsimp only at hSw); go_simp; try with_reducible rfl)
      try simp only [Act.put, sB, sC, sD]
      refine wpAnyH_take (i := 7) (oi := ⟨some 44, Op.load 53 (Operand.tmp 1), 53, "simplex.go:116", #[], none⟩) (v := ?_) rfl (by kernel_rfl) (by kernel_rfl) (by kernel_rfl) (fun _ _ _ h => h) (Or.inl ⟨by rfl, ?_⟩) hS ?_
      rotate_left
      · (intro w' hSw; (try dsimp only at hSw); go_simp; try with_reducible rfl)
      try simp only [Act.put, sB, sC, sD]
      refine wpAnyH_take (i := 8) (oi := ⟨some 45, Op.nilCheck (Operand.tmp 44), 0, "simplex.go:116", #[eD 7], none⟩) (v := ?_) rfl (by kernel_rfl) (by kernel_rfl) (by kernel_rfl) (fun _ _ _ h => h) (Or.inl ⟨by rfl, ?_⟩) hS ?_
      rotate_left
      · (intro w' hSw; (try dsimp only at hSw); go_simp; try with_reducible rfl)
      try simp only [Act.put, sB, sC, sD]
      refine wpAnyH_take (i := 9) (oi := ⟨some 46, Op.fieldAddr 61 (Operand.tmp 45) 1, 0, "simplex.go:116", #[eD 8], none⟩) (v := ?_) rfl (by kernel_rfl) (by kernel_rfl) (by kernel_rfl) (fun _ _ _ h => h) (Or.inl ⟨by rfl, ?_⟩) hS ?_
      rotate_left
      · (intro w' hSw; (try dsimp only at hSw); go_simp; try with_reducible rfl)
      try simp only [Act.put, sB, sC, sD]
      refine wpAnyH_take (i := 10) (oi := ⟨some 47, Op.load 25 (Operand.tmp 46), 25, "simplex.go:116", #[eD 9], none⟩) (v := ?_) rfl (by kernel_rfl) (by kernel_rfl) (by kernel_rfl) (fun _ _ _ h => h) (Or.inl ⟨by rfl, ?_⟩) hS ?_
      rotate_left
      · (intro w' hSw; (try dsimp only at hSw); go_simp; try with_reducible rfl)
      try simp only [Act.put, sB, sC, sD]
      refine wpAnyH_take (i := 11) (oi := ⟨some 48, Op.move (Operand.tmp 5), 3, "simplex.go:116", #[], none⟩) (v := ?_) rfl (by kernel_rfl) (by kernel_rfl) (by kernel_rfl) (fun _ _ _ h => h) (Or.inl ⟨by rfl, ?_⟩) hS ?_
      rotate_left
      · (intro w' hSw; (try dsimp only at hSw); go_simp; try with_reducible rfl)
      try simp only [Act.put, sB, sC, sD]
      refine wpAnyH_take (i := 12) (oi := ⟨some 49, Op.load 53 (Operand.tmp 1), 53, "simplex.go:116", #[], none⟩) (v := ?_) rfl (by kernel_rfl) (by kernel_rfl) (by kernel_rfl) (fun _ _ _ h => h) (Or.inl ⟨by rfl, ?_⟩) hS ?_
      rotate_left
      · (intro w' hSw; (try dsimp only at hSw); go_simp; try with_reducible rfl)
      try simp only [Act.put, sB, sC, sD]
      refine wpAnyH_take (i := 13) (oi := ⟨some 50, Op.nilCheck (Operand.tmp 49), 0, "simplex.go:116", #[eD 12], none⟩) (v := ?_) rfl (by kernel_rfl) (by kernel_rfl) (by kernel_rfl) (fun _ _ _ h => h) (Or.inl ⟨by rfl, ?_⟩) hS ?_
      rotate_left
      · (intro w' hSw; (try dsimp only at hSw); go_simp; try with_reducible rfl)
      try simp only [Act.put, sB, sC, sD]
      refine wpAnyH_take (i := 14) (oi := ⟨some 51, Op.fieldAddr 61 (Operand.tmp 50) 0, 0, "simplex.go:116", #[eD 13], none⟩) (v := ?_) rfl (by kernel_rfl) (by kernel_rfl) (by kernel_rfl) (fun _ _ _ h => h) (Or.inl ⟨by rfl, ?_⟩) hS ?_
      rotate_left
      · (intro w' hSw; (try dsimp only at hSw); go_simp; try with_reducible rfl)
      try simp only [Act.put, sB, sC, sD]
      refine wpAnyH_take (i := 15) (oi := ⟨some 52, Op.load 3 (Operand.tmp 51), 3, "simplex.go:116", #[eD 14], none⟩) (v := ?_) rfl (by kernel_rfl) (by kernel_rfl) (by kernel_rfl) (fun _ _ _ h => h) (Or.inl ⟨by rfl, ?_⟩) hS ?_
      rotate_left
      · (intro w' hSw; (try dsimp only at hSw); go_simp; try with_reducible rfl)
      try simp only [Act.put, sB, sC, sD]
      refine wpAnyH_take (i := 16) (oi := ⟨some 53, Op.binOp BinOp.sub 3 (Operand.tmp 48) (Operand.tmp 52) 3, 3, "simplex.go:116", #[eD 11, eD 15], none⟩) (v := ?_) rfl (by kernel_rfl) (by kernel_rfl) (by kernel_rfl) (fun _ _ _ h => h) (Or.inl ⟨by rfl, ?_⟩) hS ?_
      rotate_left
      · (intro w' hSw; (try dsimp only at hSw); go_simp; try with_reducible rfl)
      try simp only [Act.put, sB, sC, sD]
      refine wpAnyH_take (i := 17) (oi := ⟨some 54, Op.indexAddr 25 (Operand.tmp 47) (Operand.tmp 53), 0, "simplex.go:116", #[eD 10, eD 16], none⟩) (v := ?_) rfl (by kernel_rfl) (by kernel_rfl) (by kernel_rfl) (fun _ _ _ h => h) (Or.inl ⟨by rfl, ?_⟩) hS ?_
      rotate_left
      · (intro w' hSw; (try dsimp only at hSw); go_simp; try with_reducible rfl)
      try simp only [Act.put, sB, sC, sD]
      refine wpAnyH_take (i := 18) (oi := ⟨some 55, Op.load 39 (Operand.tmp 54), 39, "simplex.go:116", #[eD 17], none⟩) (v := ?_) rfl (by kernel_rfl) (by kernel_rfl) (by kernel_rfl) (fun _ _ _ h => h) (Or.inl ⟨by rfl, ?_⟩) hS ?_
      rotate_left
      · (intro w' hSw; (try dsimp only at hSw); go_simp; try with_reducible rfl)
      try simp only [Act.put, sB, sC, sD]
      refine wpAnyH_ready (rs := [19]) (by kernel_rfl) (by simp) ?_
      refine AllReadyH.cons (o := ⟨some 56, Op.call { callee := Callee.value (Operand.func 53), args := #[Operand.tmp 43, Operand.tmp 55], argTypes := #[39, 39] }, 3, "simplex.go:116", #[eD 6, eD 18], none⟩) rfl (fun K hK => ?_) AllReadyH.nil
      go_simp
      (go_at_call 53; (with_reducible refine (FCmp_at (hy.below (hS.2.2.2.2.2.2.2.2.2.2.2.2) (Nat.le_refl _)) (hu.below (hS.2.2.2.2.2.2.2.2.2.2.2.2) (Nat.le_refl _)) zy zu HE.out).mono ?_); rintro e wn2 ⟨rfl, hb1⟩)
      go_wp2_with fail
      refine hK.out _ _ (keepZ12 hS hb1) (fun hS => ?_)
      clear hK K hb1
      try simp only [Act.put, sB, sC, sD]
      refine wpAnyH_take (i := 20) (oi := ⟨some 57, Op.binOp BinOp.lss 3 (Operand.tmp 56) (Operand.const (Value.int IntKind.i64 0)) 3, 4, "simplex.go:116", #[eD 19], none⟩) (v := ?_) rfl (by kernel_rfl) (by kernel_rfl) (by kernel_rfl) (fun _ _ _ h => h) (Or.inl ⟨by rfl, ?_⟩) hS ?_
      rotate_left
      · (intro w' hSw; (try dsimp only at hSw); go_simp; try with_reducible rfl)
      try simp only [Act.put, sB, sC, sD]
      refine wpAnyH_take (i := 21) (oi := ⟨some 4, Op.assign (Operand.tmp 57), 4, "simplex.go:116", #[eD 20, eC 19, eP 0, eP 1, eP 2, eP 3, eP 4, eP 5, eP 6, eP 7, eP 8, eP 9, eP 10, eP 11, eP 12, eP 13, eP 14, eP 15, eP 16, eP 17, eP 18, eP 19, eP 20], none⟩) (v := ?_) rfl (by kernel_rfl) (by kernel_rfl) (by kernel_rfl) (fun _ _ _ h => h) (Or.inl ⟨by rfl, ?_⟩) hS ?_
      rotate_left
      · (intro w' hSw; (try dsimp only at hSw); go_simp; try with_reducible rfl)
      try simp only [Act.put, sB, sC, sD]
      refine wpAnyH_done (by kernel_rfl) ?_ _
      have hB2 := hB.trans (hS.2.2.2.2.2.2.2.2.2.2.2.2.mono hB.size)
      go_wp2_with fail
      go_ret
      exact ⟨rfl, hB2⟩
  · obtain rfl : C = 0 := HC.out.symm.trans h2
    obtain rfl : r = false := Bool.eq_false_iff.mpr fun h => by
      have h3 := HR.out.mp h
      unfold Sys.Free at h3
      rw [if_pos (.inl (by grind))] at h3
      exact h3 h1
    clear HR HC hT hT2 hi hf h1 h2
    go_wp2_with fail
    go_ret
    exact ⟨rfl, hB⟩
  · obtain rfl : C = 1 := HC.out.symm.trans h2
    obtain rfl : r = true := HR.out.mpr (by unfold Sys.Free; rw [if_pos (.inl (by grind))]; grind)
    clear HR HC hT hT2 hi hf h1 h2
    go_wp2_with fail
    go_ret
    exact ⟨rfl, hB⟩
set_option maxRecDepth 100000 in
set_option maxHeartbeats 3200000 in
theorem way_any {S : Sys} {s M : Nat} (hf : Fair S s M) {t : Sim} (hi : Inv S t) {L : Spots} {l : Nat} (w : World) (hT : TabV w S t L) (hl : l < S.m) :
    Calls Tryz.prog 26 #[.pointer (some ⟨L.p, 0, none⟩), .int .i64 (l : Int)] w (FirstPost w S.n (S.Free t l) t.col) := by
  generalize hP : FirstPost w S.n (S.Free t l) t.col = Post
  have HP := hide hP
  clear hP
  obtain ⟨W, hW⟩ : ∃ W, (w.alloc (.cells #[.pointer (some ⟨L.p, 0, none⟩)] 53)).alloc (.cells #[.int .i64 (l : Int)] 3) = W := ⟨_, rfl⟩
  have bx : Blk W w.heap.size 53 #[.pointer (some ⟨L.p, 0, none⟩)] := by rw [← hW]; exact (Blk.new w _ _).alloc _
  have by_ : Blk W (w.heap.size + 1) 3 #[.int .i64 (l : Int)] := by rw [← hW]; exact Blk.new_at _ _ _ (by simp)
  have sb : Below w.heap.size w W := by rw [← hW]; exact ((Below.refl w.heap.size w).alloc (Nat.le_refl _) _).alloc (by simp) _
  have HW := hide hW
  clear hW
  have b0 : W.cell? ⟨w.heap.size, 0, none⟩ = some (.pointer (some ⟨L.p, 0, none⟩)) := bx.cell 0
  have b1 : W.cell? ⟨w.heap.size + 1, 0, none⟩ = some (.int .i64 (l : Int)) := by_.cell 0
  clear bx by_
  have hT1 := hT.below sb
  have k3 := hT1.c4
  go_enter Tryz.func26, Tryz.ntmps26
  go_upto_region 1 with (fail)
  rw [HW.out]
  clear HW
  go_wp2_with fail
  have hn := hf.n
  have hm := hf.m
  go_loopg [7, 8, 16] S.n (fun k v5 v6 v14 wr => ∃ j : Nat, j + k = S.n ∧ v14 = .int .i64 (j : Int) ∧ Hid (FirstSo j (S.Free t l) t.col v5 v6) ∧ Below W.heap.size W wr)
  case atStart => exact ⟨0, by omega, rfl, hide (.inl ⟨rfl, rfl, fun l h => absurd h (Nat.not_lt_zero _)⟩), Below.refl _ _⟩
  case round =>
    obtain ⟨j, hjk, rfl, HF, hB⟩ := hrel
    have hT2 := hT1.below hB
    rcases Nat.eq_zero_or_pos gk with h0 | h0
    · subst h0
      obtain rfl : j = S.n := by omega
      have sb1 := sb.trans (hB.mono sb.size)
      rcases HF.out with ⟨rfl, rfl, hno⟩ | ⟨b, rfl, rfl, hfi⟩
      · go_wp2_with fail
        rw [← HP.out]
        exact ⟨sb1, .inr ⟨hno, 0, rfl⟩⟩
      · go_wp2_with fail
        rw [← HP.out]
        exact ⟨sb1, .inl ⟨b, hfi, rfl⟩⟩
    · have hj : j < S.n := by omega
      have ea := hT.ac (by omega)
      have kj := hT2.col j hj
      have k3' := hT2.c4
      rw [ea] at k3'
      clear ea
      have b0' := cellB b0 hB (Nat.le_refl _)
      have b1' := cellB b1 hB (Nat.le_refl _)
      have ej : (j : Int) < (S.n : Int) := by omega
      rcases HF.out with ⟨rfl, rfl, hno⟩ | ⟨b, rfl, rfl, hfi⟩
      · have hS0 : wr.cell? ⟨w.heap.size, 0, none⟩ = some (.pointer (some ⟨L.p, 0, none⟩)) ∧ wr.cell? ⟨L.p, 4, none⟩ = some (.slice (some ⟨L.gc, 0, none⟩) S.n L.kc) ∧ wr.cell? ⟨L.gc, j, none⟩ = some (.int .i64 (t.col j : Int)) ∧ wr.cell? ⟨L.gc, j, none⟩ = some (.int .i64 (t.col j : Int)) ∧ Below W.heap.size W wr.drew := ⟨b0', k3', kj, kj, hB.drew⟩
        by_cases ho : S.Free t l j
        · have HN : Hid (FirstSo (j + 1) (S.Free t l) t.col (.int .i64 (j : Int)) (.bool true)) := hide (.inr ⟨j, rfl, rfl, First.new ho fun i hi hp => absurd hp (hno i hi)⟩)
          have HO : Hid (true = true ↔ S.Free t l j) := hide ⟨fun _ => ho, fun _ => rfl⟩
          clear hno ho
          go_upto_region 6 with (fail)
          refine wp_region_held_drew (S := fun w' => w'.cell? ⟨w.heap.size, 0, none⟩ = some (.pointer (some ⟨L.p, 0, none⟩)) ∧ w'.cell? ⟨L.p, 4, none⟩ = some (.slice (some ⟨L.gc, 0, none⟩) S.n L.kc) ∧ w'.cell? ⟨L.gc, j, none⟩ = some (.int .i64 (t.col j : Int)) ∧ w'.cell? ⟨L.gc, j, none⟩ = some (.int .i64 (t.col j : Int)) ∧ Below W.heap.size W w') (by kernel_rfl) (hS0) (fun hS => ?_)
          refine wpAnyH_take (i := 0) (oi := ⟨some 19, Op.move (Operand.tmp 8), 4, "simplex.go:120", #[], none⟩) (v := ?_) rfl (by kernel_rfl) (by kernel_rfl) (by kernel_rfl) (fun _ _ _ h => h) (Or.inl ⟨by rfl, ?_⟩) hS ?_
          rotate_left
          · (intro w' hSw; (try dsimp only at hSw); go_simp; try with_reducible rfl)
          try simp only [Act.put, sB, sC, sD]
          refine wpAnyH_take (i := 1) (oi := ⟨some 20, Op.unOp UnOp.not 4 (Operand.tmp 19), 4, "simplex.go:120", #[eD 0], none⟩) (v := ?_) rfl (by kernel_rfl) (by kernel_rfl) (by kernel_rfl) (fun _ _ _ h => h) (Or.inl ⟨by rfl, ?_⟩) hS ?_
          rotate_left
          · (intro w' hSw; (try dsimp only at hSw); go_simp; try with_reducible rfl)
          try simp only [Act.put, sB, sC, sD]
          refine wpAnyH_take (i := 2) (oi := ⟨some 21, Op.move (Operand.tmp 20), 4, "simplex.go:120", #[eD 1], none⟩) (v := ?_) rfl (by kernel_rfl) (by kernel_rfl) (by kernel_rfl) (fun _ _ _ h => h) (Or.inl ⟨by rfl, ?_⟩) hS ?_
          rotate_left
          · (intro w' hSw; (try dsimp only at hSw); go_simp; try with_reducible rfl)
          try simp only [Act.put, sB, sC, sD]
          refine wpAnyH_take (i := 3) (oi := ⟨some 22, Op.load 53 (Operand.tmp 2), 53, "simplex.go:120", #[eG 2], some (2, false)⟩) (v := undef) rfl (by kernel_rfl) (by kernel_rfl) (by kernel_rfl) (fun _ _ _ h => h) (Or.inr ⟨by rfl, rfl⟩) hS ?_
          try simp only [Act.put, sB, sC, sD]
          refine wpAnyH_take (i := 4) (oi := ⟨some 23, Op.nilCheck (Operand.tmp 22), 0, "simplex.go:120", #[eD 3, eG 2], some (2, false)⟩) (v := undef) rfl (by kernel_rfl) (by kernel_rfl) (by kernel_rfl) (fun _ _ _ h => h) (Or.inr ⟨by rfl, rfl⟩) hS ?_
          try simp only [Act.put, sB, sC, sD]
          refine wpAnyH_take (i := 5) (oi := ⟨some 24, Op.fieldAddr 61 (Operand.tmp 23) 4, 0, "simplex.go:120", #[eD 4, eG 2], some (2, false)⟩) (v := undef) rfl (by kernel_rfl) (by kernel_rfl) (by kernel_rfl) (fun _ _ _ h => h) (Or.inr ⟨by rfl, rfl⟩) hS ?_
          try simp only [Act.put, sB, sC, sD]
          refine wpAnyH_take (i := 6) (oi := ⟨some 25, Op.load 58 (Operand.tmp 24), 58, "simplex.go:120", #[eD 5, eG 2], some (2, false)⟩) (v := undef) rfl (by kernel_rfl) (by kernel_rfl) (by kernel_rfl) (fun _ _ _ h => h) (Or.inr ⟨by rfl, rfl⟩) hS ?_
          try simp only [Act.put, sB, sC, sD]
          refine wpAnyH_take (i := 7) (oi := ⟨some 26, Op.move (Operand.tmp 9), 3, "simplex.go:120", #[eG 2], some (2, false)⟩) (v := undef) rfl (by kernel_rfl) (by kernel_rfl) (by kernel_rfl) (fun _ _ _ h => h) (Or.inr ⟨by rfl, rfl⟩) hS ?_
          try simp only [Act.put, sB, sC, sD]
          refine wpAnyH_take (i := 8) (oi := ⟨some 27, Op.indexAddr 58 (Operand.tmp 25) (Operand.tmp 26), 0, "simplex.go:120", #[eD 6, eD 7, eG 2], some (2, false)⟩) (v := undef) rfl (by kernel_rfl) (by kernel_rfl) (by kernel_rfl) (fun _ _ _ h => h) (Or.inr ⟨by rfl, rfl⟩) hS ?_
          try simp only [Act.put, sB, sC, sD]
          refine wpAnyH_take (i := 9) (oi := ⟨some 28, Op.load 3 (Operand.tmp 27), 3, "simplex.go:120", #[eD 8, eG 2], some (2, false)⟩) (v := undef) rfl (by kernel_rfl) (by kernel_rfl) (by kernel_rfl) (fun _ _ _ h => h) (Or.inr ⟨by rfl, rfl⟩) hS ?_
          try simp only [Act.put, sB, sC, sD]
          refine wpAnyH_take (i := 10) (oi := ⟨some 29, Op.load 53 (Operand.tmp 2), 53, "simplex.go:120", #[eG 2], some (2, false)⟩) (v := undef) rfl (by kernel_rfl) (by kernel_rfl) (by kernel_rfl) (fun _ _ _ h => h) (Or.inr ⟨by rfl, rfl⟩) hS ?_
          try simp only [Act.put, sB, sC, sD]
          refine wpAnyH_take (i := 11) (oi := ⟨some 30, Op.nilCheck (Operand.tmp 29), 0, "simplex.go:120", #[eD 10, eG 2], some (2, false)⟩) (v := undef) rfl (by kernel_rfl) (by kernel_rfl) (by kernel_rfl) (fun _ _ _ h => h) (Or.inr ⟨by rfl, rfl⟩) hS ?_
          try simp only [Act.put, sB, sC, sD]
          refine wpAnyH_take (i := 12) (oi := ⟨some 31, Op.fieldAddr 61 (Operand.tmp 30) 4, 0, "simplex.go:120", #[eD 11, eG 2], some (2, false)⟩) (v := undef) rfl (by kernel_rfl) (by kernel_rfl) (by kernel_rfl) (fun _ _ _ h => h) (Or.inr ⟨by rfl, rfl⟩) hS ?_
          try simp only [Act.put, sB, sC, sD]
          refine wpAnyH_take (i := 13) (oi := ⟨some 32, Op.load 58 (Operand.tmp 31), 58, "simplex.go:120", #[eD 12, eG 2], some (2, false)⟩) (v := undef) rfl (by kernel_rfl) (by kernel_rfl) (by kernel_rfl) (fun _ _ _ h => h) (Or.inr ⟨by rfl, rfl⟩) hS ?_
          try simp only [Act.put, sB, sC, sD]
          refine wpAnyH_take (i := 14) (oi := ⟨some 33, Op.move (Operand.tmp 7), 3, "simplex.go:120", #[eG 2], some (2, false)⟩) (v := undef) rfl (by kernel_rfl) (by kernel_rfl) (by kernel_rfl) (fun _ _ _ h => h) (Or.inr ⟨by rfl, rfl⟩) hS ?_
          try simp only [Act.put, sB, sC, sD]
          refine wpAnyH_take (i := 15) (oi := ⟨some 34, Op.indexAddr 58 (Operand.tmp 32) (Operand.tmp 33), 0, "simplex.go:120", #[eD 13, eD 14, eG 2], some (2, false)⟩) (v := undef) rfl (by kernel_rfl) (by kernel_rfl) (by kernel_rfl) (fun _ _ _ h => h) (Or.inr ⟨by rfl, rfl⟩) hS ?_
          try simp only [Act.put, sB, sC, sD]
          refine wpAnyH_take (i := 16) (oi := ⟨some 35, Op.load 3 (Operand.tmp 34), 3, "simplex.go:120", #[eD 15, eG 2], some (2, false)⟩) (v := undef) rfl (by kernel_rfl) (by kernel_rfl) (by kernel_rfl) (fun _ _ _ h => h) (Or.inr ⟨by rfl, rfl⟩) hS ?_
          try simp only [Act.put, sB, sC, sD]
          refine wpAnyH_take (i := 17) (oi := ⟨some 36, Op.binOp BinOp.lss 3 (Operand.tmp 28) (Operand.tmp 35) 3, 4, "simplex.go:120", #[eD 9, eD 16, eG 2], some (2, false)⟩) (v := undef) rfl (by kernel_rfl) (by kernel_rfl) (by kernel_rfl) (fun _ _ _ h => h) (Or.inr ⟨by rfl, rfl⟩) hS ?_
          try simp only [Act.put, sB, sC, sD]
          refine wpAnyH_take (i := 18) (oi := ⟨some 37, Op.pick (Operand.tmp 21) (Operand.const (Value.bool true)) (Operand.tmp 36), 4, "simplex.go:120", #[eD 2, eD 17], none⟩) (v := ?_) rfl (by kernel_rfl) (by kernel_rfl) (by kernel_rfl) (fun _ _ _ h => h) (Or.inl ⟨by rfl, ?_⟩) hS ?_
          rotate_left
          · (intro w' hSw; (try dsimp only at hSw); go_simp; try with_reducible rfl)
          try simp only [Act.put, sB, sC, sD]
          refine wpAnyH_take (i := 19) (oi := ⟨some 38, Op.move (Operand.tmp 37), 4, "simplex.go:120", #[eD 18, eC 2], none⟩) (v := ?_) rfl (by kernel_rfl) (by kernel_rfl) (by kernel_rfl) (fun _ _ _ h => h) (Or.inl ⟨by rfl, ?_⟩) hS ?_
          rotate_left
          · (intro w' hSw; (try dsimp only at hSw); go_simp; try with_reducible rfl)
          try simp only [Act.put, sB, sC, sD]
          refine wpAnyH_take (i := 20) (oi := ⟨some 39, Op.move (Operand.tmp 6), 86, "simplex.go:120", #[eG 19], some (19, true)⟩) (v := ?_) rfl (by kernel_rfl) (by kernel_rfl) (by kernel_rfl) (fun _ _ _ h => h) (Or.inl ⟨by rfl, ?_⟩) hS ?_
          rotate_left
          · (intro w' hSw; (try dsimp only at hSw); go_simp; try with_reducible rfl)
          try simp only [Act.put, sB, sC, sD]
          refine wpAnyH_take (i := 21) (oi := ⟨some 40, Op.move (Operand.tmp 9), 3, "simplex.go:120", #[eG 19], some (19, true)⟩) (v := ?_) rfl (by kernel_rfl) (by kernel_rfl) (by kernel_rfl) (fun _ _ _ h => h) (Or.inl ⟨by rfl, ?_⟩) hS ?_
          rotate_left
          · (intro w' hSw; (try dsimp only at hSw); go_simp; try with_reducible rfl)
          try simp only [Act.put, sB, sC, sD]
          refine wpAnyH_ready (rs := [22]) (by kernel_rfl) (by simp) ?_
          refine AllReadyH.cons (o := ⟨some 41, Op.call { callee := Callee.value (Operand.tmp 39), args := #[Operand.tmp 40], argTypes := #[3] }, 4, "simplex.go:120", #[eD 20, eD 21, eC 19, eG 19], some (19, true)⟩) rfl (fun K hK => ?_) AllReadyH.nil
          go_simp
          (with_reducible refine (way1_any hf hi (hT1.below hS.2.2.2.2) hS.1 (cellB b1 hS.2.2.2.2 (Nat.le_refl _)) hl hj HO.out).mono ?_)
          rintro e wn ⟨rfl, hb1⟩
          go_wp2_with fail
          refine hK.out _ _ (keepZ4 hS hb1) (fun hS => ?_)
          clear hK K hb1
          try simp only [Act.put, sB, sC, sD]
          refine wpAnyH_take (i := 23) (oi := ⟨some 42, Op.pick (Operand.tmp 38) (Operand.tmp 41) (Operand.const (Value.bool false)), 4, "simplex.go:120", #[eD 19, eD 22], none⟩) (v := ?_) rfl (by kernel_rfl) (by kernel_rfl) (by kernel_rfl) (fun _ _ _ h => h) (Or.inl ⟨by rfl, ?_⟩) hS ?_
          rotate_left
          · (intro w' hSw; (try dsimp only at hSw); go_simp; try with_reducible rfl)
          try simp only [Act.put, sB, sC, sD]
          refine wpAnyH_done (by kernel_rfl) ?_ _
          go_wp2_with fail
          go_roundg (gk - 1)
          case measure => omega
          case rel => exact ⟨j + 1, by omega, by go_num, HN, hS.2.2.2.2⟩
        · have HN : Hid (FirstSo (j + 1) (S.Free t l) t.col (.int .i64 0) (.bool false)) := hide (.inl ⟨rfl, rfl, fun i hi => by
            rcases Nat.lt_or_ge i j with h1 | h1
            · exact hno i h1
            · obtain rfl : i = j := by omega
              exact ho⟩)
          have HO : Hid (false = true ↔ S.Free t l j) := hide ⟨fun h => (by cases h), fun h => absurd h ho⟩
          clear hno ho
          go_upto_region 6 with (fail)
          refine wp_region_held_drew (S := fun w' => w'.cell? ⟨w.heap.size, 0, none⟩ = some (.pointer (some ⟨L.p, 0, none⟩)) ∧ w'.cell? ⟨L.p, 4, none⟩ = some (.slice (some ⟨L.gc, 0, none⟩) S.n L.kc) ∧ w'.cell? ⟨L.gc, j, none⟩ = some (.int .i64 (t.col j : Int)) ∧ w'.cell? ⟨L.gc, j, none⟩ = some (.int .i64 (t.col j : Int)) ∧ Below W.heap.size W w') (by kernel_rfl) (hS0) (fun hS => ?_)
          refine wpAnyH_take (i := 0) (oi := ⟨some 19, Op.move (Operand.tmp 8), 4, "simplex.go:120", #[], none⟩) (v := ?_) rfl (by kernel_rfl) (by kernel_rfl) (by kernel_rfl) (fun _ _ _ h => h) (Or.inl ⟨by rfl, ?_⟩) hS ?_
          rotate_left
          · (intro w' hSw; (try dsimp only at hSw); go_simp; try with_reducible rfl)
          try simp only [Act.put, sB, sC, sD]
          refine wpAnyH_take (i := 1) (oi := ⟨some 20, Op.unOp UnOp.not 4 (Operand.tmp 19), 4, "simplex.go:120", #[eD 0], none⟩) (v := ?_) rfl (by kernel_rfl) (by kernel_rfl) (by kernel_rfl) (fun _ _ _ h => h) (Or.inl ⟨by rfl, ?_⟩) hS ?_
          rotate_left
          · (intro w' hSw; (try dsimp only at hSw); go_simp; try with_reducible rfl)
          try simp only [Act.put, sB, sC, sD]
          refine wpAnyH_take (i := 2) (oi := ⟨some 21, Op.move (Operand.tmp 20), 4, "simplex.go:120", #[eD 1], none⟩) (v := ?_) rfl (by kernel_rfl) (by kernel_rfl) (by kernel_rfl) (fun _ _ _ h => h) (Or.inl ⟨by rfl, ?_⟩) hS ?_
          rotate_left
          · (intro w' hSw; (try dsimp only at hSw); go_simp; try with_reducible rfl)
          try simp only [Act.put, sB, sC, sD]
          refine wpAnyH_take (i := 3) (oi := ⟨some 22, Op.load 53 (Operand.tmp 2), 53, "simplex.go:120", #[eG 2], some (2, false)⟩) (v := undef) rfl (by kernel_rfl) (by kernel_rfl) (by kernel_rfl) (fun _ _ _ h => h) (Or.inr ⟨by rfl, rfl⟩) hS ?_
          try simp only [Act.put, sB, sC, sD]
          refine wpAnyH_take (i := 4) (oi := ⟨some 23, Op.nilCheck (Operand.tmp 22), 0, "simplex.go:120", #[eD 3, eG 2], some (2, false)⟩) (v := undef) rfl (by kernel_rfl) (by kernel_rfl) (by kernel_rfl) (fun _ _ _ h => h) (Or.inr ⟨by rfl, rfl⟩) hS ?_
          try simp only [Act.put, sB, sC, sD]
          refine wpAnyH_take (i := 5) (oi := ⟨some 24, Op.fieldAddr 61 (Operand.tmp 23) 4, 0, "simplex.go:120", #[eD 4, eG 2], some (2, false)⟩) (v := undef) rfl (by kernel_rfl) (by kernel_rfl) (by kernel_rfl) (fun _ _ _ h => h) (Or.inr ⟨by rfl, rfl⟩) hS ?_
          try simp only [Act.put, sB, sC, sD]
          refine wpAnyH_take (i := 6) (oi := ⟨some 25, Op.load 58 (Operand.tmp 24), 58, "simplex.go:120", #[eD 5, eG 2], some (2, false)⟩) (v := undef) rfl (by kernel_rfl) (by kernel_rfl) (by kernel_rfl) (fun _ _ _ h => h) (Or.inr ⟨by rfl, rfl⟩) hS ?_
          try simp only [Act.put, sB, sC, sD]
          refine wpAnyH_take (i := 7) (oi := ⟨some 26, Op.move (Operand.tmp 9), 3, "simplex.go:120", #[eG 2], some (2, false)⟩) (v := undef) rfl (by kernel_rfl) (by kernel_rfl) (by kernel_rfl) (fun _ _ _ h => h) (Or.inr ⟨by rfl, rfl⟩) hS ?_
          try simp only [Act.put, sB, sC, sD]
          refine wpAnyH_take (i := 8) (oi := ⟨some 27, Op.indexAddr 58 (Operand.tmp 25) (Operand.tmp 26), 0, "simplex.go:120", #[eD 6, eD 7, eG 2], some (2, false)⟩) (v := undef) rfl (by kernel_rfl) (by kernel_rfl) (by kernel_rfl) (fun _ _ _ h => h) (Or.inr ⟨by rfl, rfl⟩) hS ?_
          try simp only [Act.put, sB, sC, sD]
          refine wpAnyH_take (i := 9) (oi := ⟨some 28, Op.load 3 (Operand.tmp 27), 3, "simplex.go:120", #[eD 8, eG 2], some (2, false)⟩) (v := undef) rfl (by kernel_rfl) (by kernel_rfl) (by kernel_rfl) (fun _ _ _ h => h) (Or.inr ⟨by rfl, rfl⟩) hS ?_
          try simp only [Act.put, sB, sC, sD]
          refine wpAnyH_take (i := 10) (oi := ⟨some 29, Op.load 53 (Operand.tmp 2), 53, "simplex.go:120", #[eG 2], some (2, false)⟩) (v := undef) rfl (by kernel_rfl) (by kernel_rfl) (by kernel_rfl) (fun _ _ _ h => h) (Or.inr ⟨by rfl, rfl⟩) hS ?_
          try simp only [Act.put, sB, sC, sD]
          refine wpAnyH_take (i := 11) (oi := ⟨some 30, Op.nilCheck (Operand.tmp 29), 0, "simplex.go:120", #[eD 10, eG 2], some (2, false)⟩) (v := undef) rfl (by kernel_rfl) (by kernel_rfl) (by kernel_rfl) (fun _ _ _ h => h) (Or.inr ⟨by rfl, rfl⟩) hS ?_
          try simp only [Act.put, sB, sC, sD]
          refine wpAnyH_take (i := 12) (oi := ⟨some 31, Op.fieldAddr 61 (Operand.tmp 30) 4, 0, "simplex.go:120", #[eD 11, eG 2], some (2, false)⟩) (v := undef) rfl (by kernel_rfl) (by kernel_rfl) (by kernel_rfl) (fun _ _ _ h => h) (Or.inr ⟨by rfl, rfl⟩) hS ?_
          try simp only [Act.put, sB, sC, sD]
          refine wpAnyH_take (i := 13) (oi := ⟨some 32, Op.load 58 (Operand.tmp 31), 58, "simplex.go:120", #[eD 12, eG 2], some (2, false)⟩) (v := undef) rfl (by kernel_rfl) (by kernel_rfl) (by kernel_rfl) (fun _ _ _ h => h) (Or.inr ⟨by rfl, rfl⟩) hS ?_
          try simp only [Act.put, sB, sC, sD]
          refine wpAnyH_take (i := 14) (oi := ⟨some 33, Op.move (Operand.tmp 7), 3, "simplex.go:120", #[eG 2], some (2, false)⟩) (v := undef) rfl (by kernel_rfl) (by kernel_rfl) (by kernel_rfl) (fun _ _ _ h => h) (Or.inr ⟨by rfl, rfl⟩) hS ?_
          try simp only [Act.put, sB, sC, sD]
          refine wpAnyH_take (i := 15) (oi := ⟨some 34, Op.indexAddr 58 (Operand.tmp 32) (Operand.tmp 33), 0, "simplex.go:120", #[eD 13, eD 14, eG 2], some (2, false)⟩) (v := undef) rfl (by kernel_rfl) (by kernel_rfl) (by kernel_rfl) (fun _ _ _ h => h) (Or.inr ⟨by rfl, rfl⟩) hS ?_
          try simp only [Act.put, sB, sC, sD]
          refine wpAnyH_take (i := 16) (oi := ⟨some 35, Op.load 3 (Operand.tmp 34), 3, "simplex.go:120", #[eD 15, eG 2], some (2, false)⟩) (v := undef) rfl (by kernel_rfl) (by kernel_rfl) (by kernel_rfl) (fun _ _ _ h => h) (Or.inr ⟨by rfl, rfl⟩) hS ?_
          try simp only [Act.put, sB, sC, sD]
          refine wpAnyH_take (i := 17) (oi := ⟨some 36, Op.binOp BinOp.lss 3 (Operand.tmp 28) (Operand.tmp 35) 3, 4, "simplex.go:120", #[eD 9, eD 16, eG 2], some (2, false)⟩) (v := undef) rfl (by kernel_rfl) (by kernel_rfl) (by kernel_rfl) (fun _ _ _ h => h) (Or.inr ⟨by rfl, rfl⟩) hS ?_
          try simp only [Act.put, sB, sC, sD]
          refine wpAnyH_take (i := 18) (oi := ⟨some 37, Op.pick (Operand.tmp 21) (Operand.const (Value.bool true)) (Operand.tmp 36), 4, "simplex.go:120", #[eD 2, eD 17], none⟩) (v := ?_) rfl (by kernel_rfl) (by kernel_rfl) (by kernel_rfl) (fun _ _ _ h => h) (Or.inl ⟨by rfl, ?_⟩) hS ?_
          rotate_left
          · (intro w' hSw; (try dsimp only at hSw); go_simp; try with_reducible rfl)
          try simp only [Act.put, sB, sC, sD]
          refine wpAnyH_take (i := 19) (oi := ⟨some 38, Op.move (Operand.tmp 37), 4, "simplex.go:120", #[eD 18, eC 2], none⟩) (v := ?_) rfl (by kernel_rfl) (by kernel_rfl) (by kernel_rfl) (fun _ _ _ h => h) (Or.inl ⟨by rfl, ?_⟩) hS ?_
          rotate_left
          · (intro w' hSw; (try dsimp only at hSw); go_simp; try with_reducible rfl)
          try simp only [Act.put, sB, sC, sD]
          refine wpAnyH_take (i := 20) (oi := ⟨some 39, Op.move (Operand.tmp 6), 86, "simplex.go:120", #[eG 19], some (19, true)⟩) (v := ?_) rfl (by kernel_rfl) (by kernel_rfl) (by kernel_rfl) (fun _ _ _ h => h) (Or.inl ⟨by rfl, ?_⟩) hS ?_
          rotate_left
          · (intro w' hSw; (try dsimp only at hSw); go_simp; try with_reducible rfl)
          try simp only [Act.put, sB, sC, sD]
          refine wpAnyH_take (i := 21) (oi := ⟨some 40, Op.move (Operand.tmp 9), 3, "simplex.go:120", #[eG 19], some (19, true)⟩) (v := ?_) rfl (by kernel_rfl) (by kernel_rfl) (by kernel_rfl) (fun _ _ _ h => h) (Or.inl ⟨by rfl, ?_⟩) hS ?_
          rotate_left
          · (intro w' hSw; (try dsimp only at hSw); go_simp; try with_reducible rfl)
          try simp only [Act.put, sB, sC, sD]
          refine wpAnyH_ready (rs := [22]) (by kernel_rfl) (by simp) ?_
          refine AllReadyH.cons (o := ⟨some 41, Op.call { callee := Callee.value (Operand.tmp 39), args := #[Operand.tmp 40], argTypes := #[3] }, 4, "simplex.go:120", #[eD 20, eD 21, eC 19, eG 19], some (19, true)⟩) rfl (fun K hK => ?_) AllReadyH.nil
          go_simp
          (with_reducible refine (way1_any hf hi (hT1.below hS.2.2.2.2) hS.1 (cellB b1 hS.2.2.2.2 (Nat.le_refl _)) hl hj HO.out).mono ?_)
          rintro e wn ⟨rfl, hb1⟩
          go_wp2_with fail
          refine hK.out _ _ (keepZ4 hS hb1) (fun hS => ?_)
          clear hK K hb1
          try simp only [Act.put, sB, sC, sD]
          refine wpAnyH_take (i := 23) (oi := ⟨some 42, Op.pick (Operand.tmp 38) (Operand.tmp 41) (Operand.const (Value.bool false)), 4, "simplex.go:120", #[eD 19, eD 22], none⟩) (v := ?_) rfl (by kernel_rfl) (by kernel_rfl) (by kernel_rfl) (fun _ _ _ h => h) (Or.inl ⟨by rfl, ?_⟩) hS ?_
          rotate_left
          · (intro w' hSw; (try dsimp only at hSw); go_simp; try with_reducible rfl)
          try simp only [Act.put, sB, sC, sD]
          refine wpAnyH_done (by kernel_rfl) ?_ _
          go_wp2_with fail
          go_roundg (gk - 1)
          case measure => omega
          case rel => exact ⟨j + 1, by omega, by go_num, HN, hS.2.2.2.2⟩
      · have hb' : b < S.n := by have := hfi.1; omega
        have eb : (b : Int) < (S.n : Int) := by omega
        have kb := hT2.col b hb'
        have hS0 : wr.cell? ⟨w.heap.size, 0, none⟩ = some (.pointer (some ⟨L.p, 0, none⟩)) ∧ wr.cell? ⟨L.p, 4, none⟩ = some (.slice (some ⟨L.gc, 0, none⟩) S.n L.kc) ∧ wr.cell? ⟨L.gc, j, none⟩ = some (.int .i64 (t.col j : Int)) ∧ wr.cell? ⟨L.gc, b, none⟩ = some (.int .i64 (t.col b : Int)) ∧ Below W.heap.size W wr.drew := ⟨b0', k3', kj, kb, hB.drew⟩
        rcases Nat.lt_or_ge (t.col j) (t.col b) with hlt | hge
        · have e1 : decide ((t.col j : Int) < (t.col b : Int)) = true := decide_eq_true (by omega)
          have e2 : (t.col j : Int) < (t.col b : Int) := by omega
          by_cases ho : S.Free t l j
          · have HN : Hid (FirstSo (j + 1) (S.Free t l) t.col (.int .i64 (j : Int)) (.bool true)) := hide (.inr ⟨j, rfl, rfl, First.new ho fun i hi hp => Nat.le_trans (Nat.le_of_lt hlt) (hfi.2.2 i hi hp)⟩)
            have HO : Hid (true = true ↔ S.Free t l j) := hide ⟨fun _ => ho, fun _ => rfl⟩
            clear hfi ho
            go_upto_region 6 with (fail)
            refine wp_region_held_drew (S := fun w' => w'.cell? ⟨w.heap.size, 0, none⟩ = some (.pointer (some ⟨L.p, 0, none⟩)) ∧ w'.cell? ⟨L.p, 4, none⟩ = some (.slice (some ⟨L.gc, 0, none⟩) S.n L.kc) ∧ w'.cell? ⟨L.gc, j, none⟩ = some (.int .i64 (t.col j : Int)) ∧ w'.cell? ⟨L.gc, b, none⟩ = some (.int .i64 (t.col b : Int)) ∧ Below W.heap.size W w') (by kernel_rfl) (hS0) (fun hS => ?_)
            refine wpAnyH_take (i := 0) (oi := ⟨some 19, Op.move (Operand.tmp 8), 4, "simplex.go:120", #[], none⟩) (v := ?_) rfl (by kernel_rfl) (by kernel_rfl) (by kernel_rfl) (fun _ _ _ h => h) (Or.inl ⟨by rfl, ?_⟩) hS ?_
            rotate_left
            · (intro w' hSw; (try dsimp only at hSw); go_simp; try with_reducible rfl)
            try simp only [Act.put, sB, sC, sD]
            refine wpAnyH_take (i := 1) (oi := ⟨some 20, Op.unOp UnOp.not 4 (Operand.tmp 19), 4, "simplex.go:120", #[eD 0], none⟩) (v := ?_) rfl (by kernel_rfl) (by kernel_rfl) (by kernel_rfl) (fun _ _ _ h => h) (Or.inl ⟨by rfl, ?_⟩) hS ?_
            rotate_left
            · (intro w' hSw; (try dsimp only at hSw); go_simp; try with_reducible rfl)
            try simp only [Act.put, sB, sC, sD]
            refine wpAnyH_take (i := 2) (oi := ⟨some 21, Op.move (Operand.tmp 20), 4, "simplex.go:120", #[eD 1], none⟩) (v := ?_) rfl (by kernel_rfl) (by kernel_rfl) (by kernel_rfl) (fun _ _ _ h => h) (Or.inl ⟨by rfl, ?_⟩) hS ?_
            rotate_left
            · (intro w' hSw; (try dsimp only at hSw); go_simp; try with_reducible rfl)
            try simp only [Act.put, sB, sC, sD]
            refine wpAnyH_take (i := 3) (oi := ⟨some 22, Op.load 53 (Operand.tmp 2), 53, "simplex.go:120", #[eG 2], some (2, false)⟩) (v := ?_) rfl (by kernel_rfl) (by kernel_rfl) (by kernel_rfl) (fun _ _ _ h => h) (Or.inl ⟨by rfl, ?_⟩) hS ?_
            rotate_left
            · (intro w' hSw; (try dsimp only at hSw); go_simp; try with_reducible rfl)
            try simp only [Act.put, sB, sC, sD]
            refine wpAnyH_take (i := 4) (oi := ⟨some 23, Op.nilCheck (Operand.tmp 22), 0, "simplex.go:120", #[eD 3, eG 2], some (2, false)⟩) (v := ?_) rfl (by kernel_rfl) (by kernel_rfl) (by kernel_rfl) (fun _ _ _ h => h) (Or.inl ⟨by rfl, ?_⟩) hS ?_
            rotate_left
            · (intro w' hSw; (try dsimp only at hSw); go_simp; try with_reducible rfl)
            try simp only [Act.put, sB, sC, sD]
            refine wpAnyH_take (i := 5) (oi := ⟨some 24, Op.fieldAddr 61 (Operand.tmp 23) 4, 0, "simplex.go:120", #[eD 4, eG 2], some (2, false)⟩) (v := ?_) rfl (by kernel_rfl) (by kernel_rfl) (by kernel_rfl) (fun _ _ _ h => h) (Or.inl ⟨by rfl, ?_⟩) hS ?_
            rotate_left
            · (intro w' hSw; (try dsimp only at hSw); go_simp; try with_reducible rfl)
            try simp only [Act.put, sB, sC, sD]
            refine wpAnyH_take (i := 6) (oi := ⟨some 25, Op.load 58 (Operand.tmp 24), 58, "simplex.go:120", #[eD 5, eG 2], some (2, false)⟩) (v := ?_) rfl (by kernel_rfl) (by kernel_rfl) (by kernel_rfl) (fun _ _ _ h => h) (Or.inl ⟨by rfl, ?_⟩) hS ?_
            rotate_left
            · (intro w' hSw; (try dsimp only at hSw); go_simp; try with_reducible rfl)
            try simp only [Act.put, sB, sC, sD]
            refine wpAnyH_take (i := 7) (oi := ⟨some 26, Op.move (Operand.tmp 9), 3, "simplex.go:120", #[eG 2], some (2, false)⟩) (v := ?_) rfl (by kernel_rfl) (by kernel_rfl) (by kernel_rfl) (fun _ _ _ h => h) (Or.inl ⟨by rfl, ?_⟩) hS ?_
            rotate_left
            · (intro w' hSw; (try dsimp only at hSw); go_simp; try with_reducible rfl)
            try simp only [Act.put, sB, sC, sD]
            refine wpAnyH_take (i := 8) (oi := ⟨some 27, Op.indexAddr 58 (Operand.tmp 25) (Operand.tmp 26), 0, "simplex.go:120", #[eD 6, eD 7, eG 2], some (2, false)⟩) (v := ?_) rfl (by kernel_rfl) (by kernel_rfl) (by kernel_rfl) (fun _ _ _ h => h) (Or.inl ⟨by rfl, ?_⟩) hS ?_
            rotate_left
            · (intro w' hSw; (try dsimp only at hSw); go_simp; try with_reducible rfl)
            try simp only [Act.put, sB, sC, sD]
            refine wpAnyH_take (i := 9) (oi := ⟨some 28, Op.load 3 (Operand.tmp 27), 3, "simplex.go:120", #[eD 8, eG 2], some (2, false)⟩) (v := ?_) rfl (by kernel_rfl) (by kernel_rfl) (by kernel_rfl) (fun _ _ _ h => h) (Or.inl ⟨by rfl, ?_⟩) hS ?_
            rotate_left
            · (intro w' hSw; (try dsimp only at hSw); go_simp; try with_reducible rfl)
            try simp only [Act.put, sB, sC, sD]
            refine wpAnyH_take (i := 10) (oi := ⟨some 29, Op.load 53 (Operand.tmp 2), 53, "simplex.go:120", #[eG 2], some (2, false)⟩) (v := ?_) rfl (by kernel_rfl) (by kernel_rfl) (by kernel_rfl) (fun _ _ _ h => h) (Or.inl ⟨by rfl, ?_⟩) hS ?_
            rotate_left
            · (intro w' hSw; (try dsimp only at hSw); go_simp; try with_reducible rfl)
            try simp only [Act.put, sB, sC, sD]
            refine wpAnyH_take (i := 11) (oi := ⟨some 30, Op.nilCheck (Operand.tmp 29), 0, "simplex.go:120", #[eD 10, eG 2], some (2, false)⟩) (v := ?_) rfl (by kernel_rfl) (by kernel_rfl) (by kernel_rfl) (fun _ _ _ h => h) (Or.inl ⟨by rfl, ?_⟩) hS ?_
            rotate_left
            · (intro w' hSw; (try dsimp only at hSw); go_simp; try with_reducible rfl)
            try simp only [Act.put, sB, sC, sD]
            refine wpAnyH_take (i := 12) (oi := ⟨some 31, Op.fieldAddr 61 (Operand.tmp 30) 4, 0, "simplex.go:120", #[eD 11, eG 2], some (2, false)⟩) (v := ?_) rfl (by kernel_rfl) (by kernel_rfl) (by kernel_rfl) (fun _ _ _ h => h) (Or.inl ⟨by rfl, ?_⟩) hS ?_
            rotate_left
            · (intro w' hSw; (try dsimp only at hSw); go_simp; try with_reducible rfl)
            try simp only [Act.put, sB, sC, sD]
            refine wpAnyH_take (i := 13) (oi := ⟨some 32, Op.load 58 (Operand.tmp 31), 58, "simplex.go:120", #[eD 12, eG 2], some (2, false)⟩) (v := ?_) rfl (by kernel_rfl) (by kernel_rfl) (by kernel_rfl) (fun _ _ _ h => h) (Or.inl ⟨by rfl, ?_⟩) hS ?_
            rotate_left
            · (intro w' hSw; (try dsimp only at hSw); go_simp; try with_reducible rfl)
            try simp only [Act.put, sB, sC, sD]
            refine wpAnyH_take (i := 14) (oi := ⟨some 33, Op.move (Operand.tmp 7), 3, "simplex.go:120", #[eG 2], some (2, false)⟩) (v := ?_) rfl (by kernel_rfl) (by kernel_rfl) (by kernel_rfl) (fun _ _ _ h => h) (Or.inl ⟨by rfl, ?_⟩) hS ?_
            rotate_left
            · (intro w' hSw; (try dsimp only at hSw); go_simp; try with_reducible rfl)
            try simp only [Act.put, sB, sC, sD]
            refine wpAnyH_take (i := 15) (oi := ⟨some 34, Op.indexAddr 58 (Operand.tmp 32) (Operand.tmp 33), 0, "simplex.go:120", #[eD 13, eD 14, eG 2], some (2, false)⟩) (v := ?_) rfl (by kernel_rfl) (by kernel_rfl) (by kernel_rfl) (fun _ _ _ h => h) (Or.inl ⟨by rfl, ?_⟩) hS ?_
            rotate_left
            · (intro w' hSw; (try dsimp only at hSw); go_simp; try with_reducible rfl)
            try simp only [Act.put, sB, sC, sD]
            refine wpAnyH_take (i := 16) (oi := ⟨some 35, Op.load 3 (Operand.tmp 34), 3, "simplex.go:120", #[eD 15, eG 2], some (2, false)⟩) (v := ?_) rfl (by kernel_rfl) (by kernel_rfl) (by kernel_rfl) (fun _ _ _ h => h) (Or.inl ⟨by rfl, ?_⟩) hS ?_
            rotate_left
            · (intro w' hSw; (try dsimp only at hSw); go_simp; try with_reducible rfl)
            try simp only [Act.put, sB, sC, sD]
            refine wpAnyH_take (i := 17) (oi := ⟨some 36, Op.binOp BinOp.lss 3 (Operand.tmp 28) (Operand.tmp 35) 3, 4, "simplex.go:120", #[eD 9, eD 16, eG 2], some (2, false)⟩) (v := ?_) rfl (by kernel_rfl) (by kernel_rfl) (by kernel_rfl) (fun _ _ _ h => h) (Or.inl ⟨by rfl, ?_⟩) hS ?_
            rotate_left
            · (intro w' hSw; (try dsimp only at hSw); go_simp; try with_reducible rfl)
            try simp only [Act.put, sB, sC, sD]
            refine wpAnyH_take (i := 18) (oi := ⟨some 37, Op.pick (Operand.tmp 21) (Operand.const (Value.bool true)) (Operand.tmp 36), 4, "simplex.go:120", #[eD 2, eD 17], none⟩) (v := ?_) rfl (by kernel_rfl) (by kernel_rfl) (by kernel_rfl) (fun _ _ _ h => h) (Or.inl ⟨by rfl, ?_⟩) hS ?_
            rotate_left
            · (intro w' hSw; (try dsimp only at hSw); go_simp; try with_reducible rfl)
            try simp only [Act.put, sB, sC, sD]
            refine wpAnyH_take (i := 19) (oi := ⟨some 38, Op.move (Operand.tmp 37), 4, "simplex.go:120", #[eD 18, eC 2], none⟩) (v := ?_) rfl (by kernel_rfl) (by kernel_rfl) (by kernel_rfl) (fun _ _ _ h => h) (Or.inl ⟨by rfl, ?_⟩) hS ?_
            rotate_left
            · (intro w' hSw; (try dsimp only at hSw); go_simp; try with_reducible rfl)
            try simp only [Act.put, sB, sC, sD]
            refine wpAnyH_take (i := 20) (oi := ⟨some 39, Op.move (Operand.tmp 6), 86, "simplex.go:120", #[eG 19], some (19, true)⟩) (v := ?_) rfl (by kernel_rfl) (by kernel_rfl) (by kernel_rfl) (fun _ _ _ h => h) (Or.inl ⟨by rfl, ?_⟩) hS ?_
            rotate_left
            · (intro w' hSw; (try dsimp only at hSw); go_simp; try with_reducible rfl)
            try simp only [Act.put, sB, sC, sD]
            refine wpAnyH_take (i := 21) (oi := ⟨some 40, Op.move (Operand.tmp 9), 3, "simplex.go:120", #[eG 19], some (19, true)⟩) (v := ?_) rfl (by kernel_rfl) (by kernel_rfl) (by kernel_rfl) (fun _ _ _ h => h) (Or.inl ⟨by rfl, ?_⟩) hS ?_
            rotate_left
            · (intro w' hSw; (try dsimp only at hSw); go_simp; try with_reducible rfl)
            try simp only [Act.put, sB, sC, sD]
            refine wpAnyH_ready (rs := [22]) (by kernel_rfl) (by simp) ?_
            refine AllReadyH.cons (o := ⟨some 41, Op.call { callee := Callee.value (Operand.tmp 39), args := #[Operand.tmp 40], argTypes := #[3] }, 4, "simplex.go:120", #[eD 20, eD 21, eC 19, eG 19], some (19, true)⟩) rfl (fun K hK => ?_) AllReadyH.nil
            go_simp
            (with_reducible refine (way1_any hf hi (hT1.below hS.2.2.2.2) hS.1 (cellB b1 hS.2.2.2.2 (Nat.le_refl _)) hl hj HO.out).mono ?_)
            rintro e wn ⟨rfl, hb1⟩
            go_wp2_with fail
            refine hK.out _ _ (keepZ4 hS hb1) (fun hS => ?_)
            clear hK K hb1
            try simp only [Act.put, sB, sC, sD]
            refine wpAnyH_take (i := 23) (oi := ⟨some 42, Op.pick (Operand.tmp 38) (Operand.tmp 41) (Operand.const (Value.bool false)), 4, "simplex.go:120", #[eD 19, eD 22], none⟩) (v := ?_) rfl (by kernel_rfl) (by kernel_rfl) (by kernel_rfl) (fun _ _ _ h => h) (Or.inl ⟨by rfl, ?_⟩) hS ?_
            rotate_left
            · (intro w' hSw; (try dsimp only at hSw); go_simp; try with_reducible rfl)
            try simp only [Act.put, sB, sC, sD]
            refine wpAnyH_done (by kernel_rfl) ?_ _
            go_wp2_with fail
            go_roundg (gk - 1)
            case measure => omega
            case rel => exact ⟨j + 1, by omega, by go_num, HN, hS.2.2.2.2⟩
          · have HN : Hid (FirstSo (j + 1) (S.Free t l) t.col (.int .i64 (b : Int)) (.bool true)) := hide (.inr ⟨b, rfl, rfl, hfi.step (.inl ho)⟩)
            have HO : Hid (false = true ↔ S.Free t l j) := hide ⟨fun h => (by cases h), fun h => absurd h ho⟩
            clear hfi ho
            go_upto_region 6 with (fail)
            refine wp_region_held_drew (S := fun w' => w'.cell? ⟨w.heap.size, 0, none⟩ = some (.pointer (some ⟨L.p, 0, none⟩)) ∧ w'.cell? ⟨L.p, 4, none⟩ = some (.slice (some ⟨L.gc, 0, none⟩) S.n L.kc) ∧ w'.cell? ⟨L.gc, j, none⟩ = some (.int .i64 (t.col j : Int)) ∧ w'.cell? ⟨L.gc, b, none⟩ = some (.int .i64 (t.col b : Int)) ∧ Below W.heap.size W w') (by kernel_rfl) (hS0) (fun hS => ?_)
            refine wpAnyH_take (i := 0) (oi := ⟨some 19, Op.move (Operand.tmp 8), 4, "simplex.go:120", #[], none⟩) (v := ?_) rfl (by kernel_rfl) (by kernel_rfl) (by kernel_rfl) (fun _ _ _ h => h) (Or.inl ⟨by rfl, ?_⟩) hS ?_
            rotate_left
            · (intro w' hSw; (try dsimp only at hSw); go_simp; try with_reducible rfl)
            try simp only [Act.put, sB, sC, sD]
            refine wpAnyH_take (i := 1) (oi := ⟨some 20, Op.unOp UnOp.not 4 (Operand.tmp 19), 4, "simplex.go:120", #[eD 0], none⟩) (v := ?_) rfl (by kernel_rfl) (by kernel_rfl) (by kernel_rfl) (fun _ _ _ h => h) (Or.inl ⟨by rfl, ?_⟩) hS ?_
            rotate_left
            · (intro w' hSw; (try dsimp only at hSw); go_simp; try with_reducible rfl)
            try simp only [Act.put, sB, sC, sD]
            refine wpAnyH_take (i := 2) (oi := ⟨some 21, Op.move (Operand.tmp 20), 4, "simplex.go:120", #[eD 1], none⟩) (v := ?_) rfl (by kernel_rfl) (by kernel_rfl) (by kernel_rfl) (fun _ _ _ h => h) (Or.inl ⟨by rfl, ?_⟩) hS ?_
            rotate_left
            · (intro w' hSw; (try dsimp only at hSw); go_simp; try with_reducible rfl)
            try simp only [Act.put, sB, sC, sD]
            refine wpAnyH_take (i := 3) (oi := ⟨some 22, Op.load 53 (Operand.tmp 2), 53, "simplex.go:120", #[eG 2], some (2, false)⟩) (v := ?_) rfl (by kernel_rfl) (by kernel_rfl) (by kernel_rfl) (fun _ _ _ h => h) (Or.inl ⟨by rfl, ?_⟩) hS ?_
            rotate_left
            · (intro w' hSw; (try dsimp only at hSw); go_simp; try with_reducible rfl)
            try simp only [Act.put, sB, sC, sD]
            refine wpAnyH_take (i := 4) (oi := ⟨some 23, Op.nilCheck (Operand.tmp 22), 0, "simplex.go:120", #[eD 3, eG 2], some (2, false)⟩) (v := ?_) rfl (by kernel_rfl) (by kernel_rfl) (by kernel_rfl) (fun _ _ _ h => h) (Or.inl ⟨by rfl, ?_⟩) hS ?_
            rotate_left
            · (intro w' hSw; (try dsimp only at hSw); go_simp; try with_reducible rfl)
            try simp only [Act.put, sB, sC, sD]
            refine wpAnyH_take (i := 5) (oi := ⟨some 24, Op.fieldAddr 61 (Operand.tmp 23) 4, 0, "simplex.go:120", #[eD 4, eG 2], some (2, false)⟩) (v := ?_) rfl (by kernel_rfl) (by kernel_rfl) (by kernel_rfl) (fun _ _ _ h => h) (Or.inl ⟨by rfl, ?_⟩) hS ?_
            rotate_left
            · (intro w' hSw; (try dsimp only at hSw); go_simp; try with_reducible rfl)
            try simp only [Act.put, sB, sC, sD]
            refine wpAnyH_take (i := 6) (oi := ⟨some 25, Op.load 58 (Operand.tmp 24), 58, "simplex.go:120", #[eD 5, eG 2], some (2, false)⟩) (v := ?_) rfl (by kernel_rfl) (by kernel_rfl) (by kernel_rfl) (fun _ _ _ h => h) (Or.inl ⟨by rfl, ?_⟩) hS ?_
            rotate_left
            · (intro w' hSw; (try dsimp only at hSw); go_simp; try with_reducible rfl)
            try simp only [Act.put, sB, sC, sD]
            refine wpAnyH_take (i := 7) (oi := ⟨some 26, Op.move (Operand.tmp 9), 3, "simplex.go:120", #[eG 2], some (2, false)⟩) (v := ?_) rfl (by kernel_rfl) (by kernel_rfl) (by kernel_rfl) (fun _ _ _ h => h) (Or.inl ⟨by rfl, ?_⟩) hS ?_
            rotate_left
            · (intro w' hSw; (try dsimp only at hSw); go_simp; try with_reducible rfl)
            try simp only [Act.put, sB, sC, sD]
            refine wpAnyH_take (i := 8) (oi := ⟨some 27, Op.indexAddr 58 (Operand.tmp 25) (Operand.tmp 26), 0, "simplex.go:120", #[eD 6, eD 7, eG 2], some (2, false)⟩) (v := ?_) rfl (by kernel_rfl) (by kernel_rfl) (by kernel_rfl) (fun _ _ _ h => h) (Or.inl ⟨by rfl, ?_⟩) hS ?_
            rotate_left
            · (intro w' hSw; (try dsimp only at hSw); go_simp; try with_reducible rfl)
            try simp only [Act.put, sB, sC, sD]
            refine wpAnyH_take (i := 9) (oi := ⟨some 28, Op.load 3 (Operand.tmp 27), 3, "simplex.go:120", #[eD 8, eG 2], some (2, false)⟩) (v := ?_) rfl (by kernel_rfl) (by kernel_rfl) (by kernel_rfl) (fun _ _ _ h => h) (Or.inl ⟨by rfl, ?_⟩) hS ?_
            rotate_left
            · (intro w' hSw; (try dsimp only at hSw); go_simp; try with_reducible rfl)
            try simp only [Act.put, sB, sC, sD]
            refine wpAnyH_take (i := 10) (oi := ⟨some 29, Op.load 53 (Operand.tmp 2), 53, "simplex.go:120", #[eG 2], some (2, false)⟩) (v := ?_) rfl (by kernel_rfl) (by kernel_rfl) (by kernel_rfl) (fun _ _ _ h => h) (Or.inl ⟨by rfl, ?_⟩) hS ?_
            rotate_left
            · (intro w' hSw; (try dsimp only at hSw); go_simp; try with_reducible rfl)
            try simp only [Act.put, sB, sC, sD]
            refine wpAnyH_take (i := 11) (oi := ⟨some 30, Op.nilCheck (Operand.tmp 29), 0, "simplex.go:120", #[eD 10, eG 2], some (2, false)⟩) (v := ?_) rfl (by kernel_rfl) (by kernel_rfl) (by kernel_rfl) (fun _ _ _ h => h) (Or.inl ⟨by rfl, ?_⟩) hS ?_
            rotate_left
            · (intro w' hSw; (try dsimp only at hSw); go_simp; try with_reducible rfl)
            try simp only [Act.put, sB, sC, sD]
            refine wpAnyH_take (i := 12) (oi := ⟨some 31, Op.fieldAddr 61 (Operand.tmp 30) 4, 0, "simplex.go:120", #[eD 11, eG 2], some (2, false)⟩) (v := ?_) rfl (by kernel_rfl) (by kernel_rfl) (by kernel_rfl) (fun _ _ _ h => h) (Or.inl ⟨by rfl, ?_⟩) hS ?_
            rotate_left
            · (intro w' hSw; (try dsimp only at hSw); go_simp; try with_reducible rfl)
            try simp only [Act.put, sB, sC, sD]
            refine wpAnyH_take (i := 13) (oi := ⟨some 32, Op.load 58 (Operand.tmp 31), 58, "simplex.go:120", #[eD 12, eG 2], some (2, false)⟩) (v := ?_) rfl (by kernel_rfl) (by kernel_rfl) (by kernel_rfl) (fun _ _ _ h => h) (Or.inl ⟨by rfl, ?_⟩) hS ?_
            rotate_left
            · (intro w' hSw; (try dsimp only at hSw); go_simp; try with_reducible rfl)
            try simp only [Act.put, sB, sC, sD]
            refine wpAnyH_take (i := 14) (oi := ⟨some 33, Op.move (Operand.tmp 7), 3, "simplex.go:120", #[eG 2], some (2, false)⟩) (v := ?_) rfl (by kernel_rfl) (by kernel_rfl) (by kernel_rfl) (fun _ _ _ h => h) (Or.inl ⟨by rfl, ?_⟩) hS ?_
            rotate_left
            · (intro w' hSw; (try dsimp only at hSw); go_simp; try with_reducible rfl)
            try simp only [Act.put, sB, sC, sD]
            refine wpAnyH_take (i := 15) (oi := ⟨some 34, Op.indexAddr 58 (Operand.tmp 32) (Operand.tmp 33), 0, "simplex.go:120", #[eD 13, eD 14, eG 2], some (2, false)⟩) (v := ?_) rfl (by kernel_rfl) (by kernel_rfl) (by kernel_rfl) (fun _ _ _ h => h) (Or.inl ⟨by rfl, ?_⟩) hS ?_
            rotate_left
            · (intro w' hSw; (try dsimp only at hSw); go_simp; try with_reducible rfl)
            try simp only [Act.put, sB, sC, sD]
            refine wpAnyH_take (i := 16) (oi := ⟨some 35, Op.load 3 (Operand.tmp 34), 3, "simplex.go:120", #[eD 15, eG 2], some (2, false)⟩) (v := ?_) rfl (by kernel_rfl) (by kernel_rfl) (by kernel_rfl) (fun _ _ _ h => h) (Or.inl ⟨by rfl, ?_⟩) hS ?_
            rotate_left
            · (intro w' hSw; (try dsimp only at hSw); go_simp; try with_reducible rfl)
            try simp only [Act.put, sB, sC, sD]
            refine wpAnyH_take (i := 17) (oi := ⟨some 36, Op.binOp BinOp.lss 3 (Operand.tmp 28) (Operand.tmp 35) 3, 4, "simplex.go:120", #[eD 9, eD 16, eG 2], some (2, false)⟩) (v := ?_) rfl (by kernel_rfl) (by kernel_rfl) (by kernel_rfl) (fun _ _ _ h => h) (Or.inl ⟨by rfl, ?_⟩) hS ?_
            rotate_left
            · (intro w' hSw; (try dsimp only at hSw); go_simp; try with_reducible rfl)
            try simp only [Act.put, sB, sC, sD]
            refine wpAnyH_take (i := 18) (oi := ⟨some 37, Op.pick (Operand.tmp 21) (Operand.const (Value.bool true)) (Operand.tmp 36), 4, "simplex.go:120", #[eD 2, eD 17], none⟩) (v := ?_) rfl (by kernel_rfl) (by kernel_rfl) (by kernel_rfl) (fun _ _ _ h => h) (Or.inl ⟨by rfl, ?_⟩) hS ?_
            rotate_left
            · (intro w' hSw; (try dsimp only at hSw); go_simp; try with_reducible rfl)
            try simp only [Act.put, sB, sC, sD]
            refine wpAnyH_take (i := 19) (oi := ⟨some 38, Op.move (Operand.tmp 37), 4, "simplex.go:120", #[eD 18, eC 2], none⟩) (v := ?_) rfl (by kernel_rfl) (by kernel_rfl) (by kernel_rfl) (fun _ _ _ h => h) (Or.inl ⟨by rfl, ?_⟩) hS ?_
            rotate_left
            · (intro w' hSw; (try dsimp only at hSw); go_simp; try with_reducible rfl)
            try simp only [Act.put, sB, sC, sD]
            refine wpAnyH_take (i := 20) (oi := ⟨some 39, Op.move (Operand.tmp 6), 86, "simplex.go:120", #[eG 19], some (19, true)⟩) (v := ?_) rfl (by kernel_rfl) (by kernel_rfl) (by kernel_rfl) (fun _ _ _ h => h) (Or.inl ⟨by rfl, ?_⟩) hS ?_
            rotate_left
            · (intro w' hSw; (try dsimp only at hSw); go_simp; try with_reducible rfl)
            try simp only [Act.put, sB, sC, sD]
            refine wpAnyH_take (i := 21) (oi := ⟨some 40, Op.move (Operand.tmp 9), 3, "simplex.go:120", #[eG 19], some (19, true)⟩) (v := ?_) rfl (by kernel_rfl) (by kernel_rfl) (by kernel_rfl) (fun _ _ _ h => h) (Or.inl ⟨by rfl, ?_⟩) hS ?_
            rotate_left
            · (intro w' hSw; (try dsimp only at hSw); go_simp; try with_reducible rfl)
            try simp only [Act.put, sB, sC, sD]
            refine wpAnyH_ready (rs := [22]) (by kernel_rfl) (by simp) ?_
            refine AllReadyH.cons (o := ⟨some 41, Op.call { callee := Callee.value (Operand.tmp 39), args := #[Operand.tmp 40], argTypes := #[3] }, 4, "simplex.go:120", #[eD 20, eD 21, eC 19, eG 19], some (19, true)⟩) rfl (fun K hK => ?_) AllReadyH.nil
            go_simp
            (with_reducible refine (way1_any hf hi (hT1.below hS.2.2.2.2) hS.1 (cellB b1 hS.2.2.2.2 (Nat.le_refl _)) hl hj HO.out).mono ?_)
            rintro e wn ⟨rfl, hb1⟩
            go_wp2_with fail
            refine hK.out _ _ (keepZ4 hS hb1) (fun hS => ?_)
            clear hK K hb1
            try simp only [Act.put, sB, sC, sD]
            refine wpAnyH_take (i := 23) (oi := ⟨some 42, Op.pick (Operand.tmp 38) (Operand.tmp 41) (Operand.const (Value.bool false)), 4, "simplex.go:120", #[eD 19, eD 22], none⟩) (v := ?_) rfl (by kernel_rfl) (by kernel_rfl) (by kernel_rfl) (fun _ _ _ h => h) (Or.inl ⟨by rfl, ?_⟩) hS ?_
            rotate_left
            · (intro w' hSw; (try dsimp only at hSw); go_simp; try with_reducible rfl)
            try simp only [Act.put, sB, sC, sD]
            refine wpAnyH_done (by kernel_rfl) ?_ _
            go_wp2_with fail
            go_roundg (gk - 1)
            case measure => omega
            case rel => exact ⟨j + 1, by omega, by go_num, HN, hS.2.2.2.2⟩
        · have e1 : decide ((t.col j : Int) < (t.col b : Int)) = false := decide_eq_false (by omega)
          have e2 : ¬((t.col j : Int) < (t.col b : Int)) := by omega
          have HN : Hid (FirstSo (j + 1) (S.Free t l) t.col (.int .i64 (b : Int)) (.bool true)) := hide (.inr ⟨b, rfl, rfl, hfi.step (.inr hge)⟩)
          clear hfi
          go_upto_region 6 with (fail)
          refine wp_region_held_drew (S := fun w' => w'.cell? ⟨w.heap.size, 0, none⟩ = some (.pointer (some ⟨L.p, 0, none⟩)) ∧ w'.cell? ⟨L.p, 4, none⟩ = some (.slice (some ⟨L.gc, 0, none⟩) S.n L.kc) ∧ w'.cell? ⟨L.gc, j, none⟩ = some (.int .i64 (t.col j : Int)) ∧ w'.cell? ⟨L.gc, b, none⟩ = some (.int .i64 (t.col b : Int)) ∧ Below W.heap.size W w') (by kernel_rfl) (hS0) (fun hS => ?_)
          refine wpAnyH_take (i := 0) (oi := ⟨some 19, Op.move (Operand.tmp 8), 4, "simplex.go:120", #[], none⟩) (v := ?_) rfl (by kernel_rfl) (by kernel_rfl) (by kernel_rfl) (fun _ _ _ h => h) (Or.inl ⟨by rfl, ?_⟩) hS ?_
          rotate_left
          · (intro w' hSw; (try dsimp only at hSw); go_simp; try with_reducible rfl)
          try simp only [Act.put, sB, sC, sD]
          refine wpAnyH_take (i := 1) (oi := ⟨some 20, Op.unOp UnOp.not 4 (Operand.tmp 19), 4, "simplex.go:120", #[eD 0], none⟩) (v := ?_) rfl (by kernel_rfl) (by kernel_rfl) (by kernel_rfl) (fun _ _ _ h => h) (Or.inl ⟨by rfl, ?_⟩) hS ?_
          rotate_left
          · (intro w' hSw; (try dsimp only at hSw); go_simp; try with_reducible rfl)
          try simp only [Act.put, sB, sC, sD]
          refine wpAnyH_take (i := 2) (oi := ⟨some 21, Op.move (Operand.tmp 20), 4, "simplex.go:120", #[eD 1], none⟩) (v := ?_) rfl (by kernel_rfl) (by kernel_rfl) (by kernel_rfl) (fun _ _ _ h => h) (Or.inl ⟨by rfl, ?_⟩) hS ?_
          rotate_left
          · (intro w' hSw; (try dsimp only at hSw); go_simp; try with_reducible rfl)
          try simp only [Act.put, sB, sC, sD]
          refine wpAnyH_take (i := 3) (oi := ⟨some 22, Op.load 53 (Operand.tmp 2), 53, "simplex.go:120", #[eG 2], some (2, false)⟩) (v := ?_) rfl (by kernel_rfl) (by kernel_rfl) (by kernel_rfl) (fun _ _ _ h => h) (Or.inl ⟨by rfl, ?_⟩) hS ?_
          rotate_left
          · (intro w' hSw; (try dsimp only at hSw); go_simp; try with_reducible rfl)
          try simp only [Act.put, sB, sC, sD]
          refine wpAnyH_take (i := 4) (oi := ⟨some 23, Op.nilCheck (Operand.tmp 22), 0, "simplex.go:120", #[eD 3, eG 2], some (2, false)⟩) (v := ?_) rfl (by kernel_rfl) (by kernel_rfl) (by kernel_rfl) (fun _ _ _ h => h) (Or.inl ⟨by rfl, ?_⟩) hS ?_
          rotate_left
          · (intro w' hSw; (try dsimp only at hSw); go_simp; try with_reducible rfl)
          try simp only [Act.put, sB, sC, sD]
          refine wpAnyH_take (i := 5) (oi := ⟨some 24, Op.fieldAddr 61 (Operand.tmp 23) 4, 0, "simplex.go:120", #[eD 4, eG 2], some (2, false)⟩) (v := ?_) rfl (by kernel_rfl) (by kernel_rfl) (by kernel_rfl) (fun _ _ _ h => h) (Or.inl ⟨by rfl, ?_⟩) hS ?_
          rotate_left
          · (intro w' hSw; (try dsimp only at hSw); go_simp; try with_reducible rfl)
          try simp only [Act.put, sB, sC, sD]
          refine wpAnyH_take (i := 6) (oi := ⟨some 25, Op.load 58 (Operand.tmp 24), 58, "simplex.go:120", #[eD 5, eG 2], some (2, false)⟩) (v := ?_) rfl (by kernel_rfl) (by kernel_rfl) (by kernel_rfl) (fun _ _ _ h => h) (Or.inl ⟨by rfl, ?_⟩) hS ?_
          rotate_left
          · (intro w' hSw; (try dsimp only at hSw); go_simp; try with_reducible rfl)
          try simp only [Act.put, sB, sC, sD]
          refine wpAnyH_take (i := 7) (oi := ⟨some 26, Op.move (Operand.tmp 9), 3, "simplex.go:120", #[eG 2], some (2, false)⟩) (v := ?_) rfl (by kernel_rfl) (by kernel_rfl) (by kernel_rfl) (fun _ _ _ h => h) (Or.inl ⟨by rfl, ?_⟩) hS ?_
          rotate_left
          · (intro w' hSw; (try dsimp only at hSw); go_simp; try with_reducible rfl)
          try simp only [Act.put, sB, sC, sD]
          refine wpAnyH_take (i := 8) (oi := ⟨some 27, Op.indexAddr 58 (Operand.tmp 25) (Operand.tmp 26), 0, "simplex.go:120", #[eD 6, eD 7, eG 2], some (2, false)⟩) (v := ?_) rfl (by kernel_rfl) (by kernel_rfl) (by kernel_rfl) (fun _ _ _ h => h) (Or.inl ⟨by rfl, ?_⟩) hS ?_
          rotate_left
          · (intro w' hSw; (try dsimp only at hSw); go_simp; try with_reducible rfl)
          try simp only [Act.put, sB, sC, sD]
          refine wpAnyH_take (i := 9) (oi := ⟨some 28, Op.load 3 (Operand.tmp 27), 3, "simplex.go:120", #[eD 8, eG 2], some (2, false)⟩) (v := ?_) rfl (by kernel_rfl) (by kernel_rfl) (by kernel_rfl) (fun _ _ _ h => h) (Or.inl ⟨by rfl, ?_⟩) hS ?_
          rotate_left
          · (intro w' hSw; (try dsimp only at hSw); go_simp; try with_reducible rfl)
          try simp only [Act.put, sB, sC, sD]
          refine wpAnyH_take (i := 10) (oi := ⟨some 29, Op.load 53 (Operand.tmp 2), 53, "simplex.go:120", #[eG 2], some (2, false)⟩) (v := ?_) rfl (by kernel_rfl) (by kernel_rfl) (by kernel_rfl) (fun _ _ _ h => h) (Or.inl ⟨by rfl, ?_⟩) hS ?_
          rotate_left
          · (intro w' hSw; (try dsimp only at hSw); go_simp; try with_reducible rfl)
          try simp only [Act.put, sB, sC, sD]
          refine wpAnyH_take (i := 11) (oi := ⟨some 30, Op.nilCheck (Operand.tmp 29), 0, "simplex.go:120", #[eD 10, eG 2], some (2, false)⟩) (v := ?_) rfl (by kernel_rfl) (by kernel_rfl) (by kernel_rfl) (fun _ _ _ h => h) (Or.inl ⟨by rfl, ?_⟩) hS ?_
          rotate_left
          · (intro w' hSw; (try dsimp only at hSw); go_simp; try with_reducible rfl)
          try simp only [Act.put, sB, sC, sD]
          refine wpAnyH_take (i := 12) (oi := ⟨some 31, Op.fieldAddr 61 (Operand.tmp 30) 4, 0, "simplex.go:120", #[eD 11, eG 2], some (2, false)⟩) (v := ?_) rfl (by kernel_rfl) (by kernel_rfl) (by kernel_rfl) (fun _ _ _ h => h) (Or.inl ⟨by rfl, ?_⟩) hS ?_
          rotate_left
          · (intro w' hSw; (try dsimp only at hSw); go_simp; try with_reducible rfl)
          try simp only [Act.put, sB, sC, sD]
          refine wpAnyH_take (i := 13) (oi := ⟨some 32, Op.load 58 (Operand.tmp 31), 58, "simplex.go:120", #[eD 12, eG 2], some (2, false)⟩) (v := ?_) rfl (by kernel_rfl) (by kernel_rfl) (by kernel_rfl) (fun _ _ _ h => h) (Or.inl ⟨by rfl, ?_⟩) hS ?_
          rotate_left
          · (intro w' hSw; (try dsimp only at hSw); go_simp; try with_reducible rfl)
          try simp only [Act.put, sB, sC, sD]
          refine wpAnyH_take (i := 14) (oi := ⟨some 33, Op.move (Operand.tmp 7), 3, "simplex.go:120", #[eG 2], some (2, false)⟩) (v := ?_) rfl (by kernel_rfl) (by kernel_rfl) (by kernel_rfl) (fun _ _ _ h => h) (Or.inl ⟨by rfl, ?_⟩) hS ?_
          rotate_left
          · (intro w' hSw; (try dsimp only at hSw); go_simp; try with_reducible rfl)
          try simp only [Act.put, sB, sC, sD]
          refine wpAnyH_take (i := 15) (oi := ⟨some 34, Op.indexAddr 58 (Operand.tmp 32) (Operand.tmp 33), 0, "simplex.go:120", #[eD 13, eD 14, eG 2], some (2, false)⟩) (v := ?_) rfl (by kernel_rfl) (by kernel_rfl) (by kernel_rfl) (fun _ _ _ h => h) (Or.inl ⟨by rfl, ?_⟩) hS ?_
          rotate_left
          · (intro w' hSw; (try dsimp only at hSw); go_simp; try with_reducible rfl)
          try simp only [Act.put, sB, sC, sD]
          refine wpAnyH_take (i := 16) (oi := ⟨some 35, Op.load 3 (Operand.tmp 34), 3, "simplex.go:120", #[eD 15, eG 2], some (2, false)⟩) (v := ?_) rfl (by kernel_rfl) (by kernel_rfl) (by kernel_rfl) (fun _ _ _ h => h) (Or.inl ⟨by rfl, ?_⟩) hS ?_
          rotate_left
          · (intro w' hSw; (try dsimp only at hSw); go_simp; try with_reducible rfl)
          try simp only [Act.put, sB, sC, sD]
          refine wpAnyH_take (i := 17) (oi := ⟨some 36, Op.binOp BinOp.lss 3 (Operand.tmp 28) (Operand.tmp 35) 3, 4, "simplex.go:120", #[eD 9, eD 16, eG 2], some (2, false)⟩) (v := ?_) rfl (by kernel_rfl) (by kernel_rfl) (by kernel_rfl) (fun _ _ _ h => h) (Or.inl ⟨by rfl, ?_⟩) hS ?_
          rotate_left
          · (intro w' hSw; (try dsimp only at hSw); go_simp; try with_reducible rfl)
          try simp only [Act.put, sB, sC, sD]
          refine wpAnyH_take (i := 18) (oi := ⟨some 37, Op.pick (Operand.tmp 21) (Operand.const (Value.bool true)) (Operand.tmp 36), 4, "simplex.go:120", #[eD 2, eD 17], none⟩) (v := ?_) rfl (by kernel_rfl) (by kernel_rfl) (by kernel_rfl) (fun _ _ _ h => h) (Or.inl ⟨by rfl, ?_⟩) hS ?_
          rotate_left
          · (intro w' hSw; (try dsimp only at hSw); go_simp; try with_reducible rfl)
          try simp only [Act.put, sB, sC, sD]
          refine wpAnyH_take (i := 19) (oi := ⟨some 38, Op.move (Operand.tmp 37), 4, "simplex.go:120", #[eD 18, eC 2], none⟩) (v := ?_) rfl (by kernel_rfl) (by kernel_rfl) (by kernel_rfl) (fun _ _ _ h => h) (Or.inl ⟨by rfl, ?_⟩) hS ?_
          rotate_left
          · (intro w' hSw; (try dsimp only at hSw); go_simp; try with_reducible rfl)
          try simp only [Act.put, sB, sC, sD]
          refine wpAnyH_take (i := 20) (oi := ⟨some 39, Op.move (Operand.tmp 6), 86, "simplex.go:120", #[eG 19], some (19, true)⟩) (v := undef) rfl (by kernel_rfl) (by kernel_rfl) (by kernel_rfl) (fun _ _ _ h => h) (Or.inr ⟨by rfl, rfl⟩) hS ?_
          try simp only [Act.put, sB, sC, sD]
          refine wpAnyH_take (i := 21) (oi := ⟨some 40, Op.move (Operand.tmp 9), 3, "simplex.go:120", #[eG 19], some (19, true)⟩) (v := undef) rfl (by kernel_rfl) (by kernel_rfl) (by kernel_rfl) (fun _ _ _ h => h) (Or.inr ⟨by rfl, rfl⟩) hS ?_
          try simp only [Act.put, sB, sC, sD]
          refine wpAnyH_take (i := 22) (oi := ⟨some 41, Op.call { callee := Callee.value (Operand.tmp 39), args := #[Operand.tmp 40], argTypes := #[3] }, 4, "simplex.go:120", #[eD 20, eD 21, eC 19, eG 19], some (19, true)⟩) (v := undef) rfl (by kernel_rfl) (by kernel_rfl) (by kernel_rfl) (fun _ _ _ h => h) (Or.inr ⟨by rfl, rfl⟩) hS ?_
          try simp only [Act.put, sB, sC, sD]
          refine wpAnyH_take (i := 23) (oi := ⟨some 42, Op.pick (Operand.tmp 38) (Operand.tmp 41) (Operand.const (Value.bool false)), 4, "simplex.go:120", #[eD 19, eD 22], none⟩) (v := ?_) rfl (by kernel_rfl) (by kernel_rfl) (by kernel_rfl) (fun _ _ _ h => h) (Or.inl ⟨by rfl, ?_⟩) hS ?_
          rotate_left
          · (intro w' hSw; (try dsimp only at hSw); go_simp; try with_reducible rfl)
          try simp only [Act.put, sB, sC, sD]
          refine wpAnyH_done (by kernel_rfl) ?_ _
          go_wp2_with fail
          go_roundg (gk - 1)
          case measure => omega
          case rel => exact ⟨j + 1, by omega, by go_num, HN, hS.2.2.2.2⟩
end Go.Proofs.YtphjffbldhhdiaaGreatDoor
