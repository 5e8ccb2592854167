/- simplex's turn: by its contract. -/
import Derived.Test.YtphjffbldhhdiaaGreatDoorSxTurnS
import Derived.Test.YtphjffbldhhdiaaGreatDoorSxWhy
namespace Go.Proofs.YtphjffbldhhdiaaGreatDoor
open Go.RowKit

/-- What turn leaves. -/
def TurnPost (w : World) (S : Sys) (L : Spots) (B : Nat) (u : Sim) (e : Ending) (w' : World) : Prop :=
  e = .returned (.tuple #[]) ∧ TabV w' S u L ∧ TabM B w' S L ∧ Below B w w'

set_option maxRecDepth 100000 in
set_option maxHeartbeats 12800000 in
theorem turn_any {S : Sys} {s M : Nat} (hf : Fair S s M) {t : Sim} (hi : Inv S t) {L : Spots} {B l c : Nat} (w : World) (hT : TabV w S t L) (hM : TabM B w S L) (hl : l < S.m) (hc : c < S.n) (ho : S.n ≤ t.told l) :
    Calls Tryz.prog 28 #[.pointer (some ⟨L.p, 0, none⟩), .int .i64 (l : Int), .int .i64 (c : Int)] w (TurnPost w S L B (turnT S t l c)) := by
  obtain ⟨U, hU⟩ : ∃ U, turnT S t l c = U := ⟨_, rfl⟩
  generalize hP : TurnPost w S L B (turnT S t l c) = Post
  rw [hU] at hP
  have HP := hide hP
  have HU := hide hU
  clear hP hU
  obtain ⟨hn, hm⟩ := And.intro hf.n hf.m
  have hm0 : 0 < S.m := by omega
  have hn0 : 0 < S.n := by omega
  obtain ⟨st, hst⟩ : ∃ st, turnStep S t l c = st := ⟨_, rfl⟩
  obtain ⟨O, hO⟩ : ∃ O, t.told l = O := ⟨_, rfl⟩
  obtain ⟨I, hI⟩ : ∃ I, t.col c = I := ⟨_, rfl⟩
  obtain ⟨D, he⟩ : ∃ D, O = S.n + D := ⟨t.told l - S.n, by omega⟩
  have hD : D < S.m := by have := hi.at'.toldLt l hl; omega
  have hOl : O < S.n + S.m := by omega
  have hIl : I < S.n + S.m := by have := hi.at'.colLt c hc; omega
  have HST : Hid ((S.most D - t.val O) / t.T l c = st) := hide (by rw [← hst, turnStep, hO, he, show S.n + D - S.n = D from by omega])
  have zT : ∀ l' c', l' < S.m → c' < S.n → Qn 10000000 (t.T l' c') := fun l' c' h1 h2 => hf.T hi h1 h2
  have zV : ∀ v, v < S.n + S.m → Qn 10000000000 (t.val v) := fun v hv => hf.val hi hv
  have zm : Qz (S.most D) := (hf.mostZ hD).z (by decide)
  have zd : Qz (S.most D - t.val O) := by
    rw [Rat.sub_eq_add_neg]
    exact (Qn.add (hf.mostZ hD) (Qn.neg (zV O hOl))).z (by decide)
  have zs : Qn 11010000001 st := by
    rw [← HST.out, Rat.sub_eq_add_neg]
    exact Qn.mono (Qn.div (Qn.add (hf.mostZ hD) (Qn.neg (zV O hOl))) (zT l c hl hc)) (by decide)
  have HUV : Hid (put (stepV t c st S.m) I (stepV t c st S.m I + st) = U.val) := hide (by rw [← hst, ← hI, ← HU.out]; rfl)
  have HUT : Hid (put t.told l I = U.told) := hide (by rw [← hI, ← HU.out]; rfl)
  have HUC : Hid (put t.col c O = U.col) := hide (by rw [← hO, ← HU.out]; rfl)
  have HUP : Hid (U.T = pivT t.T l c) := hide (by rw [← HU.out]; rfl)
  have zst : Qz st := zs.z (by decide)
  have HZT := hide zT
  have HZV := hide zV
  have e4 : (O : Int) - (S.n : Int) = (D : Int) := by omega
  have e5 : (O : Int) < (S.n : Int) + (S.m : Int) := by omega
  have e6 : (D : Int) < (S.m : Int) := by omega
  have e7 : IntKind.i64.wrap (D : Int) = (D : Int) := IntWalk.i64_in _ (by omega)
  have e8 : (I : Int) < (S.n : Int) + (S.m : Int) := by omega
  have el : (l : Int) < (S.m : Int) := by omega
  have ec : (c : Int) < (S.n : Int) := by omega
  replace he := hide he
  have HO := hide hO
  have HI := hide hI
  clear zT zV hst
  have h0 : TurnS w.heap.size B w S L (fun _ _ => False) t w := {
    n0 := hn0, m0 := hm0, tab := hT, mem := hM, bel := Below.refl _ _, box := fun _ _ h => h.elim,
    lp := World.block_lt_of_cell? w _ hT.c0, lm := (hT.most 0 hm0).lt, lx := World.block_lt_of_cell? w _ (hT.rows 0 hm0), lv := (hT.val 0 (by omega)).lt, lt := World.block_lt_of_cell? w _ (hT.told 0 hm0), lc := World.block_lt_of_cell? w _ (hT.col 0 hn0), lr := fun l hl => (hT.T l 0 hl hn0).lt }
  have k3 := hT.c3
  have k4 := hT.c4
  have kt := hT.told l hl
  have kc := hT.col c hc
  rw [hT.at_ hm0] at k3
  rw [hT.ac hn0] at k4
  rw [hO] at kt
  rw [hI] at kc
  have a5 := hT.ax hm0
  have a1 := hT.am hm0
  have a2 := hT.av (by omega)
  have a3 := hT.at_ hm0
  have a4 := hT.ac hn0
  have ar : ∀ l, l < S.m → L.ra l = some ⟨L.row l, 0, none⟩ := fun l hl => hT.ra l hl hn0
  replace a1 := hide a1
  replace a2 := hide a2
  replace a3 := hide a3
  replace a4 := hide a4
  replace a5 := hide a5
  replace ar := hide ar
  clear hT hM hO hI
  go_enter Tryz.func28, Tryz.ntmps28
  go_upto_region 0 with (fail)
  refine wp_region_held_drew (S := fun w' => w'.cell? ⟨L.p, 3, none⟩ = some (.slice (some ⟨L.gt, 0, none⟩) S.m L.kt) ∧ w'.cell? ⟨L.gt, l, none⟩ = some (.int .i64 (O : Int)) ∧ w'.cell? ⟨L.p, 4, none⟩ = some (.slice (some ⟨L.gc, 0, none⟩) S.n L.kc) ∧ w'.cell? ⟨L.gc, c, none⟩ = some (.int .i64 (I : Int)) ∧ Below w.heap.size w w') (by kernel_rfl) (⟨k3, kt, k4, kc, (Below.refl _ _).drew⟩) (fun hS => ?_)
  refine wpAnyH_take (i := 0) (oi := ⟨some 21, Op.move (Operand.tmp 0), 53, "simplex.go:141", #[], none⟩) (v := ?_) rfl (by kernel_rfl) (by kernel_rfl) (by kernel_rfl) (fun _ _ _ h => h) (Or.inl ⟨by rfl, ?_⟩) hS ?_
  rotate_left
  · (intro w' hSw; (try dsimp only at hSw); go_simp; try with_reducible rfl)
  try simp only [Act.put, sB, sC, sD]
  refine wpAnyH_take (i := 1) (oi := ⟨some 22, Op.nilCheck (Operand.tmp 21), 0, "simplex.go:141", #[eD 0], none⟩) (v := ?_) rfl (by kernel_rfl) (by kernel_rfl) (by kernel_rfl) (fun _ _ _ h => h) (Or.inl ⟨by rfl, ?_⟩) hS ?_
  rotate_left
  · (intro w' hSw; (try dsimp only at hSw); go_simp; try with_reducible rfl)
  try simp only [Act.put, sB, sC, sD]
  refine wpAnyH_take (i := 2) (oi := ⟨some 23, Op.fieldAddr 61 (Operand.tmp 22) 3, 0, "simplex.go:141", #[eD 1], none⟩) (v := ?_) rfl (by kernel_rfl) (by kernel_rfl) (by kernel_rfl) (fun _ _ _ h => h) (Or.inl ⟨by rfl, ?_⟩) hS ?_
  rotate_left
  · (intro w' hSw; (try dsimp only at hSw); go_simp; try with_reducible rfl)
  try simp only [Act.put, sB, sC, sD]
  refine wpAnyH_take (i := 3) (oi := ⟨some 24, Op.load 58 (Operand.tmp 23), 58, "simplex.go:141", #[eD 2], none⟩) (v := ?_) rfl (by kernel_rfl) (by kernel_rfl) (by kernel_rfl) (fun _ _ _ h => h) (Or.inl ⟨by rfl, ?_⟩) hS ?_
  rotate_left
  · (intro w' hSw; (try dsimp only at hSw); go_simp; try with_reducible rfl)
  try simp only [Act.put, sB, sC, sD]
  refine wpAnyH_take (i := 4) (oi := ⟨some 25, Op.move (Operand.tmp 1), 3, "simplex.go:141", #[], none⟩) (v := ?_) rfl (by kernel_rfl) (by kernel_rfl) (by kernel_rfl) (fun _ _ _ h => h) (Or.inl ⟨by rfl, ?_⟩) hS ?_
  rotate_left
  · (intro w' hSw; (try dsimp only at hSw); go_simp; try with_reducible rfl)
  try simp only [Act.put, sB, sC, sD]
  refine wpAnyH_take (i := 5) (oi := ⟨some 26, Op.indexAddr 58 (Operand.tmp 24) (Operand.tmp 25), 0, "simplex.go:141", #[eD 3, eD 4], none⟩) (v := ?_) rfl (by kernel_rfl) (by kernel_rfl) (by kernel_rfl) (fun _ _ _ h => h) (Or.inl ⟨by rfl, ?_⟩) hS ?_
  rotate_left
  · (intro w' hSw; (try dsimp only at hSw); go_simp; try with_reducible rfl)
  try simp only [Act.put, sB, sC, sD]
  refine wpAnyH_take (i := 6) (oi := ⟨some 27, Op.load 3 (Operand.tmp 26), 3, "simplex.go:141", #[eD 5], none⟩) (v := ?_) rfl (by kernel_rfl) (by kernel_rfl) (by kernel_rfl) (fun _ _ _ h => h) (Or.inl ⟨by rfl, ?_⟩) hS ?_
  rotate_left
  · (intro w' hSw; (try dsimp only at hSw); go_simp; try with_reducible rfl)
  try simp only [Act.put, sB, sC, sD]
  refine wpAnyH_take (i := 7) (oi := ⟨some 28, Op.move (Operand.tmp 0), 53, "simplex.go:141", #[{ on := 14, ground := Ground.gcOnly Departure.lateStores }], none⟩) (v := ?_) rfl (by kernel_rfl) (by kernel_rfl) (by kernel_rfl) (fun _ _ _ h => h) (Or.inl ⟨by rfl, ?_⟩) hS ?_
  rotate_left
  · (intro w' hSw; (try dsimp only at hSw); go_simp; try with_reducible rfl)
  try simp only [Act.put, sB, sC, sD]
  refine wpAnyH_take (i := 8) (oi := ⟨some 29, Op.nilCheck (Operand.tmp 28), 0, "simplex.go:141", #[eD 7, { on := 14, ground := Ground.gcOnly Departure.lateStores }], none⟩) (v := ?_) rfl (by kernel_rfl) (by kernel_rfl) (by kernel_rfl) (fun _ _ _ h => h) (Or.inl ⟨by rfl, ?_⟩) hS ?_
  rotate_left
  · (intro w' hSw; (try dsimp only at hSw); go_simp; try with_reducible rfl)
  try simp only [Act.put, sB, sC, sD]
  refine wpAnyH_take (i := 9) (oi := ⟨some 30, Op.fieldAddr 61 (Operand.tmp 29) 4, 0, "simplex.go:141", #[eD 8, { on := 14, ground := Ground.gcOnly Departure.lateStores }], none⟩) (v := ?_) rfl (by kernel_rfl) (by kernel_rfl) (by kernel_rfl) (fun _ _ _ h => h) (Or.inl ⟨by rfl, ?_⟩) hS ?_
  rotate_left
  · (intro w' hSw; (try dsimp only at hSw); go_simp; try with_reducible rfl)
  try simp only [Act.put, sB, sC, sD]
  refine wpAnyH_take (i := 10) (oi := ⟨some 31, Op.load 58 (Operand.tmp 30), 58, "simplex.go:141", #[eD 9, { on := 14, ground := Ground.gcOnly Departure.lateStores }], none⟩) (v := ?_) rfl (by kernel_rfl) (by kernel_rfl) (by kernel_rfl) (fun _ _ _ h => h) (Or.inl ⟨by rfl, ?_⟩) hS ?_
  rotate_left
  · (intro w' hSw; (try dsimp only at hSw); go_simp; try with_reducible rfl)
  try simp only [Act.put, sB, sC, sD]
  refine wpAnyH_take (i := 11) (oi := ⟨some 32, Op.move (Operand.tmp 2), 3, "simplex.go:141", #[{ on := 14, ground := Ground.gcOnly Departure.lateStores }], none⟩) (v := ?_) rfl (by kernel_rfl) (by kernel_rfl) (by kernel_rfl) (fun _ _ _ h => h) (Or.inl ⟨by rfl, ?_⟩) hS ?_
  rotate_left
  · (intro w' hSw; (try dsimp only at hSw); go_simp; try with_reducible rfl)
  try simp only [Act.put, sB, sC, sD]
  refine wpAnyH_take (i := 12) (oi := ⟨some 33, Op.indexAddr 58 (Operand.tmp 31) (Operand.tmp 32), 0, "simplex.go:141", #[eD 10, eD 11, { on := 14, ground := Ground.gcOnly Departure.lateStores }], none⟩) (v := ?_) rfl (by kernel_rfl) (by kernel_rfl) (by kernel_rfl) (fun _ _ _ h => h) (Or.inl ⟨by rfl, ?_⟩) hS ?_
  rotate_left
  · (intro w' hSw; (try dsimp only at hSw); go_simp; try with_reducible rfl)
  try simp only [Act.put, sB, sC, sD]
  refine wpAnyH_take (i := 13) (oi := ⟨some 34, Op.load 3 (Operand.tmp 33), 3, "simplex.go:141", #[eD 12, { on := 14, ground := Ground.gcOnly Departure.lateStores }], none⟩) (v := ?_) rfl (by kernel_rfl) (by kernel_rfl) (by kernel_rfl) (fun _ _ _ h => h) (Or.inl ⟨by rfl, ?_⟩) hS ?_
  rotate_left
  · (intro w' hSw; (try dsimp only at hSw); go_simp; try with_reducible rfl)
  try simp only [Act.put, sB, sC, sD]
  refine wpAnyH_take (i := 14) (oi := ⟨some 6, Op.assign (Operand.tmp 27), 3, "simplex.go:141", #[eD 6, eP 0, eP 1, eP 2, eP 3, eP 4, eP 5, eP 6, { on := 7, ground := Ground.textOnly Departure.lateStores }, { on := 8, ground := Ground.textOnly Departure.lateStores }, { on := 9, ground := Ground.textOnly Departure.lateStores }, { on := 10, ground := Ground.textOnly Departure.lateStores }, { on := 11, ground := Ground.textOnly Departure.lateStores }, { on := 12, ground := Ground.textOnly Departure.lateStores }, { on := 13, ground := Ground.textOnly Departure.lateStores }], none⟩) (v := ?_) rfl (by kernel_rfl) (by kernel_rfl) (by kernel_rfl) (fun _ _ _ h => h) (Or.inl ⟨by rfl, ?_⟩) hS ?_
  rotate_left
  · (intro w' hSw; (try dsimp only at hSw); go_simp; try with_reducible rfl)
  try simp only [Act.put, sB, sC, sD]
  refine wpAnyH_take (i := 15) (oi := ⟨some 7, Op.assign (Operand.tmp 34), 3, "simplex.go:141", #[eD 13, eC 14, eP 0, eP 1, eP 2, eP 3, eP 4, eP 5, eP 6, eP 7, eP 8, eP 9, eP 10, eP 11, eP 12, eP 13, eP 14], none⟩) (v := ?_) rfl (by kernel_rfl) (by kernel_rfl) (by kernel_rfl) (fun _ _ _ h => h) (Or.inl ⟨by rfl, ?_⟩) hS ?_
  rotate_left
  · (intro w' hSw; (try dsimp only at hSw); go_simp; try with_reducible rfl)
  try simp only [Act.put, sB, sC, sD]
  refine wpAnyH_done (by kernel_rfl) ?_ _
  obtain ⟨w0, hw0⟩ : ∃ w0, w.drew = w0 := ⟨_, rfl⟩
  have h1 : TurnS w.heap.size B w S L (fun _ _ => False) t w0 := by rw [← hw0]; exact h0.drew
  have hN0 : w.heap.size ≤ w0.heap.size := by rw [← hw0]; exact Nat.le_refl _
  rw [hw0]
  clear hw0 h0 k3 k4 kt kc hS
  -- the box of what is turned by
  have k5 := h1.tab.c5
  have kr := h1.tab.rows l hl
  rw [a5.out] at k5
  rw [ar.out l hl] at kr
  obtain ⟨yn, ya, yl, yk, ym, yb, yi, yj, y0, y1, y2, y3, hy⟩ := h1.tab.T l c hl hc
  obtain ⟨W1, hW1⟩ : ∃ W1, w0.alloc (.cells #[.bool yn, .slice ya yl yk, .bool ym, .slice yb yi yj] 39) = W1 := ⟨_, rfl⟩
  have bx : Blk W1 w0.heap.size 39 #[.bool yn, .slice ya yl yk, .bool ym, .slice yb yi yj] := by rw [← hW1]; exact Blk.new w0 _ _
  have sb1 : Below w0.heap.size w0 W1 := by rw [← hW1]; exact (Below.refl w0.heap.size w0).alloc (Nat.le_refl _) _
  have hy1 := hy.below sb1 (Nat.le_refl _)
  have h2 := (h1.below sb1).push hN0 (FAt.of bx hy1)
  obtain ⟨gb, hgb⟩ : ∃ gb, w0.heap.size = gb := ⟨_, rfl⟩
  replace HW1 := hide hW1
  clear hW1 hy h1
  go_upto_region 2 with (fail)
  rw [HW1.out]
  have hN1 : w.heap.size ≤ W1.heap.size := Nat.le_trans hN0 sb1.size
  clear HW1 y0 y1 y2 y3 k5 kr sb1
  rw [hgb] at h2 bx
  clear hgb
  have k1 := h2.tab.c1
  have k0 := h2.tab.c0
  have k2 := h2.tab.c2
  rw [a1.out] at k1
  rw [a2.out] at k2
  obtain ⟨un, ua, ul, uk, um, ub, ui, uj, u0, u1, u2, u3, hu⟩ := h2.tab.most D hD
  obtain ⟨vn, va, vl, vk, vm, vb, vi, vj, v0, v1, v2, v3, hv⟩ := h2.tab.val O hOl
  obtain ⟨y0, y1, y2, y3, -⟩ := bx.c4
  have zv : Qz (t.val O) := (HZV.out O hOl).z (by decide)
  have zy : Qz (t.T l c) := (HZT.out l c hl hc).z (by decide)
  clear hN0 bx
  go_cut [9] from 45 to 67 (fun v9 wc => ∃ gs, v9 = .pointer (some ⟨gs, 0, none⟩) ∧ TurnS w.heap.size B w S L (fun g q => (False ∨ (g = gb ∧ q = t.T l c)) ∨ (g = gs ∧ q = st)) t wc)
  case first =>
    refine wp_region_till (S := fun w' => w'.cell? ⟨L.p, 1, none⟩ = some (.slice (some ⟨L.gm, 0, none⟩) S.m L.km) ∧ w'.cell? ⟨L.p, 0, none⟩ = some (.int .i64 (S.n : Int)) ∧ w'.cell? ⟨L.p, 2, none⟩ = some (.slice (some ⟨L.gv, 0, none⟩) (S.n + S.m) L.kv) ∧ w'.cell? ⟨L.gm, D * 4, none⟩ = some (.bool un) ∧ w'.cell? ⟨L.gm, D * 4 + 1, none⟩ = some (.slice ua ul uk) ∧ w'.cell? ⟨L.gm, D * 4 + 2, none⟩ = some (.bool um) ∧ w'.cell? ⟨L.gm, D * 4 + 3, none⟩ = some (.slice ub ui uj) ∧ w'.cell? ⟨L.gv, O * 4, none⟩ = some (.bool vn) ∧ w'.cell? ⟨L.gv, O * 4 + 1, none⟩ = some (.slice va vl vk) ∧ w'.cell? ⟨L.gv, O * 4 + 2, none⟩ = some (.bool vm) ∧ w'.cell? ⟨L.gv, O * 4 + 3, none⟩ = some (.slice vb vi vj) ∧ w'.cell? ⟨gb, 0, none⟩ = some (.bool yn) ∧ w'.cell? ⟨gb, 1, none⟩ = some (.slice ya yl yk) ∧ w'.cell? ⟨gb, 2, none⟩ = some (.bool ym) ∧ w'.cell? ⟨gb, 3, none⟩ = some (.slice yb yi yj) ∧ Below W1.heap.size W1 w') (fun i => decide (i < 23)) (by kernel_rfl) (⟨k1, k0, k2, u0, u1, u2, u3, v0, v1, v2, v3, y0, y1, y2, y3, (Below.refl _ _).drew⟩) (fun hS => ?_)
    refine Till_take (i := 0) (oi := ⟨some 45, Op.move (Operand.tmp 0), 53, "simplex.go:143", #[], none⟩) (v := ?_) rfl (by kernel_rfl) (by kernel_rfl) (by kernel_rfl) (fun _ _ _ h => h) rfl (by kernel_rfl) (Or.inl ⟨by rfl, ?_⟩) hS ?_
    rotate_left
    · (intro w' hSw; (try dsimp only at hSw); go_simp; try with_reducible rfl)
    try simp only [Act.put, sB, sC, sD]
    refine Till_take (i := 1) (oi := ⟨some 46, Op.nilCheck (Operand.tmp 45), 0, "simplex.go:143", #[eD 0], none⟩) (v := ?_) rfl (by kernel_rfl) (by kernel_rfl) (by kernel_rfl) (fun _ _ _ h => h) rfl (by kernel_rfl) (Or.inl ⟨by rfl, ?_⟩) hS ?_
    rotate_left
    · (intro w' hSw; (try dsimp only at hSw); go_simp; try with_reducible rfl)
    try simp only [Act.put, sB, sC, sD]
    refine Till_take (i := 2) (oi := ⟨some 47, Op.fieldAddr 61 (Operand.tmp 46) 1, 0, "simplex.go:143", #[eD 1], none⟩) (v := ?_) rfl (by kernel_rfl) (by kernel_rfl) (by kernel_rfl) (fun _ _ _ h => h) rfl (by kernel_rfl) (Or.inl ⟨by rfl, ?_⟩) hS ?_
    rotate_left
    · (intro w' hSw; (try dsimp only at hSw); go_simp; try with_reducible rfl)
    try simp only [Act.put, sB, sC, sD]
    refine Till_take (i := 3) (oi := ⟨some 48, Op.load 25 (Operand.tmp 47), 25, "simplex.go:143", #[eD 2], none⟩) (v := ?_) rfl (by kernel_rfl) (by kernel_rfl) (by kernel_rfl) (fun _ _ _ h => h) rfl (by kernel_rfl) (Or.inl ⟨by rfl, ?_⟩) hS ?_
    rotate_left
    · (intro w' hSw; (try dsimp only at hSw); go_simp; try with_reducible rfl)
    try simp only [Act.put, sB, sC, sD]
    refine Till_take (i := 4) (oi := ⟨some 49, Op.move (Operand.tmp 6), 3, "simplex.go:143", #[], none⟩) (v := ?_) rfl (by kernel_rfl) (by kernel_rfl) (by kernel_rfl) (fun _ _ _ h => h) rfl (by kernel_rfl) (Or.inl ⟨by rfl, ?_⟩) hS ?_
    rotate_left
    · (intro w' hSw; (try dsimp only at hSw); go_simp; try with_reducible rfl)
    try simp only [Act.put, sB, sC, sD]
    refine Till_take (i := 5) (oi := ⟨some 50, Op.move (Operand.tmp 0), 53, "simplex.go:143", #[], none⟩) (v := ?_) rfl (by kernel_rfl) (by kernel_rfl) (by kernel_rfl) (fun _ _ _ h => h) rfl (by kernel_rfl) (Or.inl ⟨by rfl, ?_⟩) hS ?_
    rotate_left
    · (intro w' hSw; (try dsimp only at hSw); go_simp; try with_reducible rfl)
    try simp only [Act.put, sB, sC, sD]
    refine Till_take (i := 6) (oi := ⟨some 51, Op.nilCheck (Operand.tmp 50), 0, "simplex.go:143", #[eD 5], none⟩) (v := ?_) rfl (by kernel_rfl) (by kernel_rfl) (by kernel_rfl) (fun _ _ _ h => h) rfl (by kernel_rfl) (Or.inl ⟨by rfl, ?_⟩) hS ?_
    rotate_left
    · (intro w' hSw; (try dsimp only at hSw); go_simp; try with_reducible rfl)
    try simp only [Act.put, sB, sC, sD]
    refine Till_take (i := 7) (oi := ⟨some 52, Op.fieldAddr 61 (Operand.tmp 51) 0, 0, "simplex.go:143", #[eD 6], none⟩) (v := ?_) rfl (by kernel_rfl) (by kernel_rfl) (by kernel_rfl) (fun _ _ _ h => h) rfl (by kernel_rfl) (Or.inl ⟨by rfl, ?_⟩) hS ?_
    rotate_left
    · (intro w' hSw; (try dsimp only at hSw); go_simp; try with_reducible rfl)
    try simp only [Act.put, sB, sC, sD]
    refine Till_take (i := 8) (oi := ⟨some 53, Op.load 3 (Operand.tmp 52), 3, "simplex.go:143", #[eD 7], none⟩) (v := ?_) rfl (by kernel_rfl) (by kernel_rfl) (by kernel_rfl) (fun _ _ _ h => h) rfl (by kernel_rfl) (Or.inl ⟨by rfl, ?_⟩) hS ?_
    rotate_left
    · (intro w' hSw; (try dsimp only at hSw); go_simp; try with_reducible rfl)
    try simp only [Act.put, sB, sC, sD]
    refine Till_take (i := 9) (oi := ⟨some 54, Op.binOp BinOp.sub 3 (Operand.tmp 49) (Operand.tmp 53) 3, 3, "simplex.go:143", #[eD 4, eD 8], none⟩) (v := ?_) rfl (by kernel_rfl) (by kernel_rfl) (by kernel_rfl) (fun _ _ _ h => h) rfl (by kernel_rfl) (Or.inl ⟨by rfl, ?_⟩) hS ?_
    rotate_left
    · (intro w' hSw; (try dsimp only at hSw); go_simp; try with_reducible rfl)
    try simp only [Act.put, sB, sC, sD]
    refine Till_take (i := 10) (oi := ⟨some 55, Op.indexAddr 25 (Operand.tmp 48) (Operand.tmp 54), 0, "simplex.go:143", #[eD 3, eD 9], none⟩) (v := ?_) rfl (by kernel_rfl) (by kernel_rfl) (by kernel_rfl) (fun _ _ _ h => h) rfl (by kernel_rfl) (Or.inl ⟨by rfl, ?_⟩) hS ?_
    rotate_left
    · (intro w' hSw; (try dsimp only at hSw); go_simp; try with_reducible rfl)
    try simp only [Act.put, sB, sC, sD]
    refine Till_take (i := 11) (oi := ⟨some 56, Op.load 39 (Operand.tmp 55), 39, "simplex.go:143", #[eD 10], none⟩) (v := ?_) rfl (by kernel_rfl) (by kernel_rfl) (by kernel_rfl) (fun _ _ _ h => h) rfl (by kernel_rfl) (Or.inl ⟨by rfl, ?_⟩) hS ?_
    rotate_left
    · (intro w' hSw; (try dsimp only at hSw); go_simp; try with_reducible rfl)
    try simp only [Act.put, sB, sC, sD]
    refine Till_take (i := 12) (oi := ⟨some 57, Op.move (Operand.tmp 0), 53, "simplex.go:143", #[], none⟩) (v := ?_) rfl (by kernel_rfl) (by kernel_rfl) (by kernel_rfl) (fun _ _ _ h => h) rfl (by kernel_rfl) (Or.inl ⟨by rfl, ?_⟩) hS ?_
    rotate_left
    · (intro w' hSw; (try dsimp only at hSw); go_simp; try with_reducible rfl)
    try simp only [Act.put, sB, sC, sD]
    refine Till_take (i := 13) (oi := ⟨some 58, Op.nilCheck (Operand.tmp 57), 0, "simplex.go:143", #[eD 12], none⟩) (v := ?_) rfl (by kernel_rfl) (by kernel_rfl) (by kernel_rfl) (fun _ _ _ h => h) rfl (by kernel_rfl) (Or.inl ⟨by rfl, ?_⟩) hS ?_
    rotate_left
    · (intro w' hSw; (try dsimp only at hSw); go_simp; try with_reducible rfl)
    try simp only [Act.put, sB, sC, sD]
    refine Till_take (i := 14) (oi := ⟨some 59, Op.fieldAddr 61 (Operand.tmp 58) 2, 0, "simplex.go:143", #[eD 13], none⟩) (v := ?_) rfl (by kernel_rfl) (by kernel_rfl) (by kernel_rfl) (fun _ _ _ h => h) rfl (by kernel_rfl) (Or.inl ⟨by rfl, ?_⟩) hS ?_
    rotate_left
    · (intro w' hSw; (try dsimp only at hSw); go_simp; try with_reducible rfl)
    try simp only [Act.put, sB, sC, sD]
    refine Till_take (i := 15) (oi := ⟨some 60, Op.load 25 (Operand.tmp 59), 25, "simplex.go:143", #[eD 14], none⟩) (v := ?_) rfl (by kernel_rfl) (by kernel_rfl) (by kernel_rfl) (fun _ _ _ h => h) rfl (by kernel_rfl) (Or.inl ⟨by rfl, ?_⟩) hS ?_
    rotate_left
    · (intro w' hSw; (try dsimp only at hSw); go_simp; try with_reducible rfl)
    try simp only [Act.put, sB, sC, sD]
    refine Till_take (i := 16) (oi := ⟨some 61, Op.move (Operand.tmp 6), 3, "simplex.go:143", #[], none⟩) (v := ?_) rfl (by kernel_rfl) (by kernel_rfl) (by kernel_rfl) (fun _ _ _ h => h) rfl (by kernel_rfl) (Or.inl ⟨by rfl, ?_⟩) hS ?_
    rotate_left
    · (intro w' hSw; (try dsimp only at hSw); go_simp; try with_reducible rfl)
    try simp only [Act.put, sB, sC, sD]
    refine Till_take (i := 17) (oi := ⟨some 62, Op.indexAddr 25 (Operand.tmp 60) (Operand.tmp 61), 0, "simplex.go:143", #[eD 15, eD 16], none⟩) (v := ?_) rfl (by kernel_rfl) (by kernel_rfl) (by kernel_rfl) (fun _ _ _ h => h) rfl (by kernel_rfl) (Or.inl ⟨by rfl, ?_⟩) hS ?_
    rotate_left
    · (intro w' hSw; (try dsimp only at hSw); go_simp; try with_reducible rfl)
    try simp only [Act.put, sB, sC, sD]
    refine Till_take (i := 18) (oi := ⟨some 63, Op.load 39 (Operand.tmp 62), 39, "simplex.go:143", #[eD 17], none⟩) (v := ?_) rfl (by kernel_rfl) (by kernel_rfl) (by kernel_rfl) (fun _ _ _ h => h) rfl (by kernel_rfl) (Or.inl ⟨by rfl, ?_⟩) hS ?_
    rotate_left
    · (intro w' hSw; (try dsimp only at hSw); go_simp; try with_reducible rfl)
    try simp only [Act.put, sB, sC, sD]
    refine Till_take (i := 20) (oi := ⟨some 65, Op.load 39 (Operand.tmp 8), 39, "simplex.go:143", #[], none⟩) (v := ?_) rfl (by kernel_rfl) (by kernel_rfl) (by kernel_rfl) (fun _ _ _ h => h) rfl (by kernel_rfl) (Or.inl ⟨by rfl, ?_⟩) hS ?_
    rotate_left
    · (intro w' hSw; (try dsimp only at hSw); go_simp; try with_reducible rfl)
    try simp only [Act.put, sB, sC, sD]
    refine Till_ready (rs := [19, 22]) (by kernel_rfl) (by kernel_rfl) (by simp) ?_
    refine AllReadyT.cons (o := ⟨some 64, Op.call { callee := Callee.value (Operand.func 58), args := #[Operand.tmp 56, Operand.tmp 63], argTypes := #[39, 39] }, 39, "simplex.go:143", #[eD 11, eD 18], none⟩) rfl (fun K hK => ?_) (AllReadyT.cons (o := ⟨some 9, Op.alloc 39, 0, "simplex.go:143", #[], none⟩) rfl (fun K hK => ?_) AllReadyT.nil)
    · go_simp
      (go_at_call 58; (with_reducible refine (less_any _ (hu.below (hS.2.2.2.2.2.2.2.2.2.2.2.2.2.2.2) (Nat.le_refl _)) (hv.below (hS.2.2.2.2.2.2.2.2.2.2.2.2.2.2.2) (Nat.le_refl _)) zm zv).mono ?_); rintro e wA ⟨rA, rfl, hA, hb1⟩)
      go_wp2_with fail
      refine hK.out _ _ (keepZ15 hS hb1) (fun hS => ?_)
      clear hK K
      try simp only [Act.put, sB, sC, sD]
      clear hb1
      refine Till_ready (rs := [21, 22]) (by kernel_rfl) (by kernel_rfl) (by simp) ?_
      refine AllReadyT.cons (o := ⟨some 66, Op.call { callee := Callee.value (Operand.func 57), args := #[Operand.tmp 64, Operand.tmp 65], argTypes := #[39, 39] }, 39, "simplex.go:143", #[eD 19, eD 20, eC 19], none⟩) rfl (fun K hK => ?_) (AllReadyT.cons (o := ⟨some 9, Op.alloc 39, 0, "simplex.go:143", #[], none⟩) rfl (fun K hK => ?_) AllReadyT.nil)
      · go_simp
        (go_at_call 57; (with_reducible refine (FDiv_any _ hA (hy1.below (hS.2.2.2.2.2.2.2.2.2.2.2.2.2.2.2) (Nat.le_refl _)) zd zy).mono ?_); rintro e wC ⟨rC, rfl, hC, hb1⟩)
        obtain ⟨xn, xa, xl, xk, xm, xb, xi, xj, rfl, -, -⟩ := FracV.parts hC
        rw [HST.out] at hC
        go_wp2_with fail
        refine hK.out _ _ (keepZ15 hS hb1) (fun hS => ?_)
        clear hK K
        try simp only [Act.put, sB, sC, sD]
        clear hb1
        have hB9 := (hS.2.2.2.2.2.2.2.2.2.2.2.2.2.2.2)
        have hb9 : Below wC.heap.size wC (wC.alloc (.cells #[.bool xn, .slice xa xl xk, .bool xm, .slice xb xi xj] 39)) := (Below.refl _ _).alloc (Nat.le_refl _) _
        refine Till_ready (rs := [22]) (by kernel_rfl) (by kernel_rfl) (by simp) ?_
        refine AllReadyT.cons (o := ⟨some 9, Op.alloc 39, 0, "simplex.go:143", #[], none⟩) rfl (fun K hK => ?_) AllReadyT.nil
        go_simp
        have hgs : W1.heap.size ≤ wC.heap.size := (hS.2.2.2.2.2.2.2.2.2.2.2.2.2.2.2).size
        have bs : Blk (wC.alloc (.cells #[.bool false, .slice none 0 0, .bool false, .slice none 0 0] 39)) wC.heap.size 39 #[.bool false, .slice none 0 0, .bool false, .slice none 0 0] := Blk.new wC _ _
        have hb1 : Below wC.heap.size wC (wC.alloc (.cells #[.bool false, .slice none 0 0, .bool false, .slice none 0 0] 39)) := (Below.refl _ _).alloc (Nat.le_refl _) _
        refine hK.out _ _ (keepZ15 hS hb1) (fun hS => ?_)
        clear hK K
        try simp only [Act.put, sB, sC, sD]
        clear hb1
        refine Till_turn (by kernel_rfl) ?_
        refine wpAnyH_ready (rs := [23]) (by kernel_rfl) (by simp) ?_
        refine AllReadyH.cons (o := ⟨none, Op.store 39 (Operand.tmp 9) (Operand.tmp 66), 0, "simplex.go:143", #[eD 22, eD 21, eC 21, eP 0, eP 1, eP 2, eP 3, eP 4, eP 5, eP 6, eP 7, eP 8, eP 9, eP 10, eP 11, eP 12, eP 13, eP 14, eP 15, eP 16, eP 17, eP 18, eP 19, eP 20, eP 21, eP 22], none⟩) rfl (fun K hK => ?_) AllReadyH.nil
        obtain ⟨z0, z1, z2, z3, zf⟩ := bs.c4
        have f0 := zf 0
        have f1 := zf 1
        have f2 := zf 2
        have f3 := zf 3
        clear zf
        go_simp
        refine hK.out _ _ trivial (fun _ => ?_)
        clear hK K z0 z1 z2 z3 f0 f1 f2 f3
        try simp only [Act.put, sB, sC, sD]
        refine wpAnyH_done (by kernel_rfl) ?_ _
        go_wp2_with fail
        go_meet
        exact ⟨_, rfl, (h2.below (hB9.trans (hb9.mono hB9.size))).push (Nat.le_trans hN1 hgs) (FAt.of (Blk.new wC _ _) (hC.below hb9 (Nat.le_refl _)))⟩
      · go_simp
        have hgs : W1.heap.size ≤ wA.heap.size := (hS.2.2.2.2.2.2.2.2.2.2.2.2.2.2.2).size
        have bs : Blk (wA.alloc (.cells #[.bool false, .slice none 0 0, .bool false, .slice none 0 0] 39)) wA.heap.size 39 #[.bool false, .slice none 0 0, .bool false, .slice none 0 0] := Blk.new wA _ _
        have hb1 : Below wA.heap.size wA (wA.alloc (.cells #[.bool false, .slice none 0 0, .bool false, .slice none 0 0] 39)) := (Below.refl _ _).alloc (Nat.le_refl _) _
        refine hK.out _ _ (keepZ15 hS hb1) (fun hS => ?_)
        clear hK K
        try simp only [Act.put, sB, sC, sD]
        replace hA := hA.below hb1 (Nat.le_refl _)
        clear hb1
        refine Till_ready (rs := [21]) (by kernel_rfl) (by kernel_rfl) (by simp) ?_
        refine AllReadyT.cons (o := ⟨some 66, Op.call { callee := Callee.value (Operand.func 57), args := #[Operand.tmp 64, Operand.tmp 65], argTypes := #[39, 39] }, 39, "simplex.go:143", #[eD 19, eD 20, eC 19], none⟩) rfl (fun K hK => ?_) AllReadyT.nil
        go_simp
        (go_at_call 57; (with_reducible refine (FDiv_any _ hA (hy1.below (hS.2.2.2.2.2.2.2.2.2.2.2.2.2.2.2) (Nat.le_refl _)) zd zy).mono ?_); rintro e wC ⟨rC, rfl, hC, hb1⟩)
        obtain ⟨xn, xa, xl, xk, xm, xb, xi, xj, rfl, -, -⟩ := FracV.parts hC
        rw [HST.out] at hC
        go_wp2_with fail
        refine hK.out _ _ (keepZ15 hS hb1) (fun hS => ?_)
        clear hK K
        try simp only [Act.put, sB, sC, sD]
        replace bs := bs.below hb1 bs.lt
        clear hb1
        refine Till_turn (by kernel_rfl) ?_
        refine wpAnyH_ready (rs := [23]) (by kernel_rfl) (by simp) ?_
        refine AllReadyH.cons (o := ⟨none, Op.store 39 (Operand.tmp 9) (Operand.tmp 66), 0, "simplex.go:143", #[eD 22, eD 21, eC 21, eP 0, eP 1, eP 2, eP 3, eP 4, eP 5, eP 6, eP 7, eP 8, eP 9, eP 10, eP 11, eP 12, eP 13, eP 14, eP 15, eP 16, eP 17, eP 18, eP 19, eP 20, eP 21, eP 22], none⟩) rfl (fun K hK => ?_) AllReadyH.nil
        obtain ⟨z0, z1, z2, z3, zf⟩ := bs.c4
        have f0 := zf 0
        have f1 := zf 1
        have f2 := zf 2
        have f3 := zf 3
        clear zf
        go_simp
        refine hK.out _ _ trivial (fun _ => ?_)
        clear hK K z0 z1 z2 z3 f0 f1 f2 f3
        try simp only [Act.put, sB, sC, sD]
        refine wpAnyH_done (by kernel_rfl) ?_ _
        go_wp2_with fail
        go_meet
        exact ⟨_, rfl, (h2.below (below_put4 (hS.2.2.2.2.2.2.2.2.2.2.2.2.2.2.2) hgs (.bool xn) (.slice xa xl xk) (.bool xm) (.slice xb xi xj))).push (Nat.le_trans hN1 hgs) (FAt.put4_at hC (FAt.of bs (FracV.zero _)))⟩
    · go_simp
      have hgs : W1.heap.size ≤ W1.drew.heap.size := (hS.2.2.2.2.2.2.2.2.2.2.2.2.2.2.2).size
      have bs : Blk (W1.drew.alloc (.cells #[.bool false, .slice none 0 0, .bool false, .slice none 0 0] 39)) W1.heap.size 39 #[.bool false, .slice none 0 0, .bool false, .slice none 0 0] := Blk.new W1.drew _ _
      have hb1 : Below W1.drew.heap.size W1.drew (W1.drew.alloc (.cells #[.bool false, .slice none 0 0, .bool false, .slice none 0 0] 39)) := (Below.refl _ _).alloc (Nat.le_refl _) _
      refine hK.out _ _ (keepZ15 hS hb1) (fun hS => ?_)
      clear hK K
      try simp only [Act.put, sB, sC, sD]
      clear hb1
      refine Till_ready (rs := [19]) (by kernel_rfl) (by kernel_rfl) (by simp) ?_
      refine AllReadyT.cons (o := ⟨some 64, Op.call { callee := Callee.value (Operand.func 58), args := #[Operand.tmp 56, Operand.tmp 63], argTypes := #[39, 39] }, 39, "simplex.go:143", #[eD 11, eD 18], none⟩) rfl (fun K hK => ?_) AllReadyT.nil
      go_simp
      (go_at_call 58; (with_reducible refine (less_any _ (hu.below (hS.2.2.2.2.2.2.2.2.2.2.2.2.2.2.2) (Nat.le_refl _)) (hv.below (hS.2.2.2.2.2.2.2.2.2.2.2.2.2.2.2) (Nat.le_refl _)) zm zv).mono ?_); rintro e wA ⟨rA, rfl, hA, hb1⟩)
      go_wp2_with fail
      refine hK.out _ _ (keepZ15 hS hb1) (fun hS => ?_)
      clear hK K
      try simp only [Act.put, sB, sC, sD]
      replace bs := bs.below hb1 bs.lt
      clear hb1
      refine Till_ready (rs := [21]) (by kernel_rfl) (by kernel_rfl) (by simp) ?_
      refine AllReadyT.cons (o := ⟨some 66, Op.call { callee := Callee.value (Operand.func 57), args := #[Operand.tmp 64, Operand.tmp 65], argTypes := #[39, 39] }, 39, "simplex.go:143", #[eD 19, eD 20, eC 19], none⟩) rfl (fun K hK => ?_) AllReadyT.nil
      go_simp
      (go_at_call 57; (with_reducible refine (FDiv_any _ hA (hy1.below (hS.2.2.2.2.2.2.2.2.2.2.2.2.2.2.2) (Nat.le_refl _)) zd zy).mono ?_); rintro e wC ⟨rC, rfl, hC, hb1⟩)
      obtain ⟨xn, xa, xl, xk, xm, xb, xi, xj, rfl, -, -⟩ := FracV.parts hC
      rw [HST.out] at hC
      go_wp2_with fail
      refine hK.out _ _ (keepZ15 hS hb1) (fun hS => ?_)
      clear hK K
      try simp only [Act.put, sB, sC, sD]
      replace bs := bs.below hb1 bs.lt
      clear hb1
      refine Till_turn (by kernel_rfl) ?_
      refine wpAnyH_ready (rs := [23]) (by kernel_rfl) (by simp) ?_
      refine AllReadyH.cons (o := ⟨none, Op.store 39 (Operand.tmp 9) (Operand.tmp 66), 0, "simplex.go:143", #[eD 22, eD 21, eC 21, eP 0, eP 1, eP 2, eP 3, eP 4, eP 5, eP 6, eP 7, eP 8, eP 9, eP 10, eP 11, eP 12, eP 13, eP 14, eP 15, eP 16, eP 17, eP 18, eP 19, eP 20, eP 21, eP 22], none⟩) rfl (fun K hK => ?_) AllReadyH.nil
      obtain ⟨z0, z1, z2, z3, zf⟩ := bs.c4
      have f0 := zf 0
      have f1 := zf 1
      have f2 := zf 2
      have f3 := zf 3
      clear zf
      go_simp
      refine hK.out _ _ trivial (fun _ => ?_)
      clear hK K z0 z1 z2 z3 f0 f1 f2 f3
      try simp only [Act.put, sB, sC, sD]
      refine wpAnyH_done (by kernel_rfl) ?_ _
      go_wp2_with fail
      go_meet
      exact ⟨_, rfl, (h2.below (below_put4 (hS.2.2.2.2.2.2.2.2.2.2.2.2.2.2.2) hgs (.bool xn) (.slice xa xl xk) (.bool xm) (.slice xb xi xj))).push (Nat.le_trans hN1 hgs) (FAt.put4_at hC (FAt.of bs (FracV.zero _)))⟩
  case rest =>
    clear k0 k1 k2 u0 u1 u2 u3 v0 v1 v2 v3 y0 y1 y2 y3 hu hv hy1 h2 hN1 zv e4 e5 e6 e7 zm zd
    obtain ⟨gs, rfl, h3⟩ := hcut
    obtain ⟨P, h3, hpb, hps⟩ : ∃ P : Nat → Rat → Prop, TurnS w.heap.size B w S L P t wc ∧ P gb (t.T l c) ∧ P gs st := ⟨_, h3, .inl (.inr ⟨rfl, rfl⟩), .inr ⟨rfl, rfl⟩⟩
    have k3 := h3.tab.c3
    rw [a3.out] at k3
    go_wp2_with fail
    clear k3
    go_loopg [72] S.m (fun k v72 wr => ∃ j : Nat, j + k = S.m ∧ v72 = .int .i64 (j : Int) ∧ TurnS w.heap.size B w S L P { t with val := stepV t c st j } wr)
    case atStart => exact ⟨0, by omega, rfl, h3.congr rfl rfl rfl (fun _ _ _ _ => rfl)⟩
    case round =>
      clear h3
      obtain ⟨j, hjk, rfl, h4⟩ := hrel
      rcases Nat.eq_zero_or_pos gk with h0 | h0
      · subst h0
        obtain rfl : j = S.m := by omega
        have k2 := h4.tab.c2
        rw [a2.out] at k2
        obtain ⟨vn, va, vl, vk, vm, vb, vi, vj, v0, v1, v2, v3, hv⟩ : FAt wr L.gv (I * 4) (stepV t c st S.m I) := h4.tab.val I hIl
        have zv : Qz (stepV t c st S.m I) := by
          rw [stepV_else t c st _ S.m (fun l' h' he => hi.at'.apart l' c h' hc (he.trans HI.out.symm))]
          exact (HZV.out _ hIl).z (by decide)
        obtain ⟨qn, qa, ql, qk, qm, qb, qi, qj, q0, q1, q2, q3, hq⟩ := (h4.box gs st hps).2.box
        go_upto_region 10 with (fail)
        refine wp_region_till (S := fun w' => w'.cell? ⟨L.p, 2, none⟩ = some (.slice (some ⟨L.gv, 0, none⟩) (S.n + S.m) L.kv) ∧ w'.cell? ⟨L.gv, I * 4, none⟩ = some (.bool vn) ∧ w'.cell? ⟨L.gv, I * 4 + 1, none⟩ = some (.slice va vl vk) ∧ w'.cell? ⟨L.gv, I * 4 + 2, none⟩ = some (.bool vm) ∧ w'.cell? ⟨L.gv, I * 4 + 3, none⟩ = some (.slice vb vi vj) ∧ w'.cell? ⟨gs, 0, none⟩ = some (.bool qn) ∧ w'.cell? ⟨gs, 1, none⟩ = some (.slice qa ql qk) ∧ w'.cell? ⟨gs, 2, none⟩ = some (.bool qm) ∧ w'.cell? ⟨gs, 3, none⟩ = some (.slice qb qi qj) ∧ Below wr.heap.size wr w') (fun i => decide (i < 14)) (by kernel_rfl) (⟨k2, v0, v1, v2, v3, q0, q1, q2, q3, (Below.refl _ _).drew⟩) (fun hS => ?_)
        refine Till_take (i := 0) (oi := ⟨some 108, Op.move (Operand.tmp 0), 53, "simplex.go:149", #[], none⟩) (v := ?_) rfl (by kernel_rfl) (by kernel_rfl) (by kernel_rfl) (fun _ _ _ h => h) rfl (by kernel_rfl) (Or.inl ⟨by rfl, ?_⟩) hS ?_
        rotate_left
        · (intro w' hSw; (try dsimp only at hSw); go_simp; try with_reducible rfl)
        try simp only [Act.put, sB, sC, sD]
        refine Till_take (i := 1) (oi := ⟨some 109, Op.nilCheck (Operand.tmp 108), 0, "simplex.go:149", #[eD 0], none⟩) (v := ?_) rfl (by kernel_rfl) (by kernel_rfl) (by kernel_rfl) (fun _ _ _ h => h) rfl (by kernel_rfl) (Or.inl ⟨by rfl, ?_⟩) hS ?_
        rotate_left
        · (intro w' hSw; (try dsimp only at hSw); go_simp; try with_reducible rfl)
        try simp only [Act.put, sB, sC, sD]
        refine Till_take (i := 2) (oi := ⟨some 110, Op.fieldAddr 61 (Operand.tmp 109) 2, 0, "simplex.go:149", #[eD 1], none⟩) (v := ?_) rfl (by kernel_rfl) (by kernel_rfl) (by kernel_rfl) (fun _ _ _ h => h) rfl (by kernel_rfl) (Or.inl ⟨by rfl, ?_⟩) hS ?_
        rotate_left
        · (intro w' hSw; (try dsimp only at hSw); go_simp; try with_reducible rfl)
        try simp only [Act.put, sB, sC, sD]
        refine Till_take (i := 3) (oi := ⟨some 111, Op.load 25 (Operand.tmp 110), 25, "simplex.go:149", #[eD 2], none⟩) (v := ?_) rfl (by kernel_rfl) (by kernel_rfl) (by kernel_rfl) (fun _ _ _ h => h) rfl (by kernel_rfl) (Or.inl ⟨by rfl, ?_⟩) hS ?_
        rotate_left
        · (intro w' hSw; (try dsimp only at hSw); go_simp; try with_reducible rfl)
        try simp only [Act.put, sB, sC, sD]
        refine Till_take (i := 4) (oi := ⟨some 112, Op.move (Operand.tmp 7), 3, "simplex.go:149", #[], none⟩) (v := ?_) rfl (by kernel_rfl) (by kernel_rfl) (by kernel_rfl) (fun _ _ _ h => h) rfl (by kernel_rfl) (Or.inl ⟨by rfl, ?_⟩) hS ?_
        rotate_left
        · (intro w' hSw; (try dsimp only at hSw); go_simp; try with_reducible rfl)
        try simp only [Act.put, sB, sC, sD]
        refine Till_take (i := 5) (oi := ⟨some 113, Op.move (Operand.tmp 0), 53, "simplex.go:149", #[], none⟩) (v := ?_) rfl (by kernel_rfl) (by kernel_rfl) (by kernel_rfl) (fun _ _ _ h => h) rfl (by kernel_rfl) (Or.inl ⟨by rfl, ?_⟩) hS ?_
        rotate_left
        · (intro w' hSw; (try dsimp only at hSw); go_simp; try with_reducible rfl)
        try simp only [Act.put, sB, sC, sD]
        refine Till_take (i := 6) (oi := ⟨some 114, Op.nilCheck (Operand.tmp 113), 0, "simplex.go:149", #[eD 5], none⟩) (v := ?_) rfl (by kernel_rfl) (by kernel_rfl) (by kernel_rfl) (fun _ _ _ h => h) rfl (by kernel_rfl) (Or.inl ⟨by rfl, ?_⟩) hS ?_
        rotate_left
        · (intro w' hSw; (try dsimp only at hSw); go_simp; try with_reducible rfl)
        try simp only [Act.put, sB, sC, sD]
        refine Till_take (i := 7) (oi := ⟨some 115, Op.fieldAddr 61 (Operand.tmp 114) 2, 0, "simplex.go:149", #[eD 6], none⟩) (v := ?_) rfl (by kernel_rfl) (by kernel_rfl) (by kernel_rfl) (fun _ _ _ h => h) rfl (by kernel_rfl) (Or.inl ⟨by rfl, ?_⟩) hS ?_
        rotate_left
        · (intro w' hSw; (try dsimp only at hSw); go_simp; try with_reducible rfl)
        try simp only [Act.put, sB, sC, sD]
        refine Till_take (i := 8) (oi := ⟨some 116, Op.load 25 (Operand.tmp 115), 25, "simplex.go:149", #[eD 7], none⟩) (v := ?_) rfl (by kernel_rfl) (by kernel_rfl) (by kernel_rfl) (fun _ _ _ h => h) rfl (by kernel_rfl) (Or.inl ⟨by rfl, ?_⟩) hS ?_
        rotate_left
        · (intro w' hSw; (try dsimp only at hSw); go_simp; try with_reducible rfl)
        try simp only [Act.put, sB, sC, sD]
        refine Till_take (i := 9) (oi := ⟨some 117, Op.move (Operand.tmp 7), 3, "simplex.go:149", #[], none⟩) (v := ?_) rfl (by kernel_rfl) (by kernel_rfl) (by kernel_rfl) (fun _ _ _ h => h) rfl (by kernel_rfl) (Or.inl ⟨by rfl, ?_⟩) hS ?_
        rotate_left
        · (intro w' hSw; (try dsimp only at hSw); go_simp; try with_reducible rfl)
        try simp only [Act.put, sB, sC, sD]
        refine Till_take (i := 10) (oi := ⟨some 118, Op.indexAddr 25 (Operand.tmp 116) (Operand.tmp 117), 0, "simplex.go:149", #[eD 8, eD 9], none⟩) (v := ?_) rfl (by kernel_rfl) (by kernel_rfl) (by kernel_rfl) (fun _ _ _ h => h) rfl (by kernel_rfl) (Or.inl ⟨by rfl, ?_⟩) hS ?_
        rotate_left
        · (intro w' hSw; (try dsimp only at hSw); go_simp; try with_reducible rfl)
        try simp only [Act.put, sB, sC, sD]
        refine Till_take (i := 11) (oi := ⟨some 119, Op.load 39 (Operand.tmp 118), 39, "simplex.go:149", #[eD 10], none⟩) (v := ?_) rfl (by kernel_rfl) (by kernel_rfl) (by kernel_rfl) (fun _ _ _ h => h) rfl (by kernel_rfl) (Or.inl ⟨by rfl, ?_⟩) hS ?_
        rotate_left
        · (intro w' hSw; (try dsimp only at hSw); go_simp; try with_reducible rfl)
        try simp only [Act.put, sB, sC, sD]
        refine Till_take (i := 12) (oi := ⟨some 120, Op.load 39 (Operand.tmp 9), 39, "simplex.go:149", #[], none⟩) (v := ?_) rfl (by kernel_rfl) (by kernel_rfl) (by kernel_rfl) (fun _ _ _ h => h) rfl (by kernel_rfl) (Or.inl ⟨by rfl, ?_⟩) hS ?_
        rotate_left
        · (intro w' hSw; (try dsimp only at hSw); go_simp; try with_reducible rfl)
        try simp only [Act.put, sB, sC, sD]
        refine Till_ready (rs := [13]) (by kernel_rfl) (by kernel_rfl) (by simp) ?_
        refine AllReadyT.cons (o := ⟨some 121, Op.call { callee := Callee.value (Operand.func 14), args := #[Operand.tmp 119, Operand.tmp 120], argTypes := #[39, 39] }, 39, "simplex.go:149", #[eD 11, eD 12], none⟩) rfl (fun K hK => ?_) AllReadyT.nil
        go_simp
        (go_at_call 14; (with_reducible refine (FAdd_any _ (hv.below (hS.2.2.2.2.2.2.2.2.2) (Nat.le_refl _)) (hq.below (hS.2.2.2.2.2.2.2.2.2) (Nat.le_refl _)) zv zst).mono ?_); rintro e wN ⟨rN, rfl, hN, hb1⟩)
        obtain ⟨un, ua, ul, uk, um, ub, ui, uj, rfl, -, -⟩ := FracV.parts hN
        go_wp2_with fail
        refine hK.out _ _ (keepZ9 hS hb1) (fun hS => ?_)
        clear hK K hb1
        try simp only [Act.put, sB, sC, sD]
        refine Till_turn (by kernel_rfl) ?_
        refine wpAnyH_take (i := 14) (oi := ⟨some 122, Op.indexAddr 25 (Operand.tmp 111) (Operand.tmp 112), 0, "simplex.go:149", #[eD 3, eD 4, eP 0, eP 1, eP 2, eP 3, eP 4, eP 5, eP 6, eP 7, eP 8, eP 9, eP 10, eP 11, eP 12, eP 13], none⟩) (v := ?_) rfl (by kernel_rfl) (by kernel_rfl) (by kernel_rfl) (fun _ _ _ h => h) (Or.inl ⟨by rfl, ?_⟩) trivial ?_
        rotate_left
        · (intro w' hSw; (try dsimp only at hSw); go_simp; try with_reducible rfl)
        try simp only [Act.put, sB, sC, sD]
        refine wpAnyH_ready (rs := [15]) (by kernel_rfl) (by simp) ?_
        refine AllReadyH.cons (o := ⟨none, Op.store 39 (Operand.tmp 122) (Operand.tmp 121), 0, "simplex.go:149", #[eD 14, eD 13, eC 13, eP 0, eP 1, eP 2, eP 3, eP 4, eP 5, eP 6, eP 7, eP 8, eP 9, eP 10, eP 11, eP 12, eP 13], none⟩) rfl (fun K hK => ?_) AllReadyH.nil
        have h7 := h4.below (hS.2.2.2.2.2.2.2.2.2)
        obtain ⟨_, _, _, _, _, _, _, _, z0, z1, z2, z3, -⟩ := h7.tab.val I hIl
        have f0 := h7.mem.fv (I * 4)
        have f1 := h7.mem.fv (I * 4 + 1)
        have f2 := h7.mem.fv (I * 4 + 2)
        have f3 := h7.mem.fv (I * 4 + 3)
        obtain ⟨W3, hW3⟩ : ∃ W3, put4 wN L.gv (I * 4) (.bool un) (.slice ua ul uk) (.bool um) (.slice ub ui uj) = W3 := ⟨_, rfl⟩
        have h8 : TurnS w.heap.size B w S L P { t with val := U.val } W3 := by rw [← hW3, ← HUV.out]; exact h7.setVal hIl hN
        simp only [put4] at hW3
        have HW3 := hide hW3
        clear hW3
        go_simp
        refine hK.out _ _ trivial (fun _ => ?_)
        clear hK K z0 z1 z2 z3 f0 f1 f2 f3
        try simp only [Act.put, sB, sC, sD]
        refine wpAnyH_done (by kernel_rfl) ?_ _
        rw [HW3.out]
        clear HW3 hS k2 v0 v1 v2 v3 q0 q1 q2 q3 hv hq h4 e8 zv h7
        -- the two change places
        have h9 := h8.drew
        have k3 := h9.tab.c3
        have k4 := h9.tab.c4
        rw [a3.out] at k3
        rw [a4.out] at k4
        go_upto_region 11 with (fail)
        refine wp_region_held_drew (S := fun w' => w'.cell? ⟨L.p, 3, none⟩ = some (.slice (some ⟨L.gt, 0, none⟩) S.m L.kt) ∧ w'.cell? ⟨L.p, 4, none⟩ = some (.slice (some ⟨L.gc, 0, none⟩) S.n L.kc)) (by kernel_rfl) (⟨k3, k4⟩) (fun hS => ?_)
        refine wpAnyH_take (i := 0) (oi := ⟨some 123, Op.move (Operand.tmp 0), 53, "simplex.go:150", #[], none⟩) (v := ?_) rfl (by kernel_rfl) (by kernel_rfl) (by kernel_rfl) (fun _ _ _ h => h) (Or.inl ⟨by rfl, ?_⟩) hS ?_
        rotate_left
        · (intro w' hSw; (try dsimp only at hSw); go_simp; try with_reducible rfl)
        try simp only [Act.put, sB, sC, sD]
        refine wpAnyH_take (i := 1) (oi := ⟨some 124, Op.nilCheck (Operand.tmp 123), 0, "simplex.go:150", #[eD 0], none⟩) (v := ?_) rfl (by kernel_rfl) (by kernel_rfl) (by kernel_rfl) (fun _ _ _ h => h) (Or.inl ⟨by rfl, ?_⟩) hS ?_
        rotate_left
        · (intro w' hSw; (try dsimp only at hSw); go_simp; try with_reducible rfl)
        try simp only [Act.put, sB, sC, sD]
        refine wpAnyH_take (i := 2) (oi := ⟨some 125, Op.fieldAddr 61 (Operand.tmp 124) 3, 0, "simplex.go:150", #[eD 1], none⟩) (v := ?_) rfl (by kernel_rfl) (by kernel_rfl) (by kernel_rfl) (fun _ _ _ h => h) (Or.inl ⟨by rfl, ?_⟩) hS ?_
        rotate_left
        · (intro w' hSw; (try dsimp only at hSw); go_simp; try with_reducible rfl)
        try simp only [Act.put, sB, sC, sD]
        refine wpAnyH_take (i := 3) (oi := ⟨some 126, Op.load 58 (Operand.tmp 125), 58, "simplex.go:150", #[eD 2], none⟩) (v := ?_) rfl (by kernel_rfl) (by kernel_rfl) (by kernel_rfl) (fun _ _ _ h => h) (Or.inl ⟨by rfl, ?_⟩) hS ?_
        rotate_left
        · (intro w' hSw; (try dsimp only at hSw); go_simp; try with_reducible rfl)
        try simp only [Act.put, sB, sC, sD]
        refine wpAnyH_take (i := 4) (oi := ⟨some 127, Op.move (Operand.tmp 1), 3, "simplex.go:150", #[], none⟩) (v := ?_) rfl (by kernel_rfl) (by kernel_rfl) (by kernel_rfl) (fun _ _ _ h => h) (Or.inl ⟨by rfl, ?_⟩) hS ?_
        rotate_left
        · (intro w' hSw; (try dsimp only at hSw); go_simp; try with_reducible rfl)
        try simp only [Act.put, sB, sC, sD]
        refine wpAnyH_take (i := 5) (oi := ⟨some 128, Op.move (Operand.tmp 0), 53, "simplex.go:150", #[], none⟩) (v := ?_) rfl (by kernel_rfl) (by kernel_rfl) (by kernel_rfl) (fun _ _ _ h => h) (Or.inl ⟨by rfl, ?_⟩) hS ?_
        rotate_left
        · (intro w' hSw; (try dsimp only at hSw); go_simp; try with_reducible rfl)
        try simp only [Act.put, sB, sC, sD]
        refine wpAnyH_take (i := 6) (oi := ⟨some 129, Op.nilCheck (Operand.tmp 128), 0, "simplex.go:150", #[eD 5], none⟩) (v := ?_) rfl (by kernel_rfl) (by kernel_rfl) (by kernel_rfl) (fun _ _ _ h => h) (Or.inl ⟨by rfl, ?_⟩) hS ?_
        rotate_left
        · (intro w' hSw; (try dsimp only at hSw); go_simp; try with_reducible rfl)
        try simp only [Act.put, sB, sC, sD]
        refine wpAnyH_take (i := 7) (oi := ⟨some 130, Op.fieldAddr 61 (Operand.tmp 129) 4, 0, "simplex.go:150", #[eD 6], none⟩) (v := ?_) rfl (by kernel_rfl) (by kernel_rfl) (by kernel_rfl) (fun _ _ _ h => h) (Or.inl ⟨by rfl, ?_⟩) hS ?_
        rotate_left
        · (intro w' hSw; (try dsimp only at hSw); go_simp; try with_reducible rfl)
        try simp only [Act.put, sB, sC, sD]
        refine wpAnyH_take (i := 8) (oi := ⟨some 131, Op.load 58 (Operand.tmp 130), 58, "simplex.go:150", #[eD 7], none⟩) (v := ?_) rfl (by kernel_rfl) (by kernel_rfl) (by kernel_rfl) (fun _ _ _ h => h) (Or.inl ⟨by rfl, ?_⟩) hS ?_
        rotate_left
        · (intro w' hSw; (try dsimp only at hSw); go_simp; try with_reducible rfl)
        try simp only [Act.put, sB, sC, sD]
        refine wpAnyH_take (i := 9) (oi := ⟨some 132, Op.move (Operand.tmp 2), 3, "simplex.go:150", #[{ on := 13, ground := Ground.gcOnly Departure.lateStores }], none⟩) (v := ?_) rfl (by kernel_rfl) (by kernel_rfl) (by kernel_rfl) (fun _ _ _ h => h) (Or.inl ⟨by rfl, ?_⟩) hS ?_
        rotate_left
        · (intro w' hSw; (try dsimp only at hSw); go_simp; try with_reducible rfl)
        try simp only [Act.put, sB, sC, sD]
        refine wpAnyH_take (i := 10) (oi := ⟨some 133, Op.move (Operand.tmp 7), 3, "simplex.go:150", #[], none⟩) (v := ?_) rfl (by kernel_rfl) (by kernel_rfl) (by kernel_rfl) (fun _ _ _ h => h) (Or.inl ⟨by rfl, ?_⟩) hS ?_
        rotate_left
        · (intro w' hSw; (try dsimp only at hSw); go_simp; try with_reducible rfl)
        try simp only [Act.put, sB, sC, sD]
        refine wpAnyH_take (i := 11) (oi := ⟨some 134, Op.move (Operand.tmp 6), 3, "simplex.go:150", #[{ on := 13, ground := Ground.gcOnly Departure.lateStores }], none⟩) (v := ?_) rfl (by kernel_rfl) (by kernel_rfl) (by kernel_rfl) (fun _ _ _ h => h) (Or.inl ⟨by rfl, ?_⟩) hS ?_
        rotate_left
        · (intro w' hSw; (try dsimp only at hSw); go_simp; try with_reducible rfl)
        try simp only [Act.put, sB, sC, sD]
        refine wpAnyH_take (i := 12) (oi := ⟨some 135, Op.indexAddr 58 (Operand.tmp 126) (Operand.tmp 127), 0, "simplex.go:150", #[eD 3, eD 4, eP 0, eP 1, eP 2, eP 3, eP 4, { on := 5, ground := Ground.textOnly Departure.lateStores }, { on := 6, ground := Ground.textOnly Departure.lateStoresUnsure }, { on := 7, ground := Ground.textOnly Departure.lateStoresUnsure }, eP 8, { on := 9, ground := Ground.textOnly Departure.lateStores }, eP 10, { on := 11, ground := Ground.textOnly Departure.lateStores }], none⟩) (v := ?_) rfl (by kernel_rfl) (by kernel_rfl) (by kernel_rfl) (fun _ _ _ h => h) (Or.inl ⟨by rfl, ?_⟩) hS ?_
        rotate_left
        · (intro w' hSw; (try dsimp only at hSw); go_simp; try with_reducible rfl)
        try simp only [Act.put, sB, sC, sD]
        refine wpAnyH_ready (rs := [13]) (by kernel_rfl) (by simp) ?_
        refine AllReadyH.cons (o := ⟨none, Op.store 3 (Operand.tmp 135) (Operand.tmp 133), 0, "simplex.go:150", #[eD 12, eD 10, eP 0, eP 1, eP 2, eP 3, eP 4, { on := 5, ground := Ground.textOnly Departure.lateStores }, { on := 6, ground := Ground.textOnly Departure.lateStoresUnsure }, { on := 7, ground := Ground.textOnly Departure.lateStoresUnsure }, eP 8, { on := 9, ground := Ground.textOnly Departure.lateStores }, eP 10, { on := 11, ground := Ground.textOnly Departure.lateStores }], none⟩) rfl (fun K hK => ?_) AllReadyH.nil
        have z0 := h8.tab.told l hl
        have f0 := h8.mem.ft l
        go_simp
        refine hK.out _ _ ⟨by show ((W3.setCell ⟨L.gt, l, none⟩ (.int .i64 (I : Int)))).cell? _ = _; rw [World.cell?_setCell_other _ _ _ _ (show (⟨L.gt, l, none⟩ : Addr) ≠ ⟨L.p, 3, none⟩ from fun e => h8.mem.pt (by injection e with e1; exact e1.symm))]; exact hS.1, by show ((W3.setCell ⟨L.gt, l, none⟩ (.int .i64 (I : Int)))).cell? _ = _; rw [World.cell?_setCell_other _ _ _ _ (show (⟨L.gt, l, none⟩ : Addr) ≠ ⟨L.p, 4, none⟩ from fun e => h8.mem.pt (by injection e with e1; exact e1.symm))]; exact hS.2⟩ (fun hS => ?_)
        clear hK K z0 f0
        try simp only [Act.put, sB, sC, sD]
        refine wpAnyH_take (i := 14) (oi := ⟨some 136, Op.indexAddr 58 (Operand.tmp 131) (Operand.tmp 132), 0, "simplex.go:150", #[eD 8, eD 9, eP 0, eP 1, eP 2, eP 3, eP 4, eP 5, eP 6, eP 7, eP 8, eP 9, eP 10, eP 11, eP 12, eP 13], none⟩) (v := ?_) rfl (by kernel_rfl) (by kernel_rfl) (by kernel_rfl) (fun _ _ _ h => h) (Or.inl ⟨by rfl, ?_⟩) hS ?_
        rotate_left
        · (intro w' hSw; (try dsimp only at hSw); go_simp; try with_reducible rfl)
        try simp only [Act.put, sB, sC, sD]
        refine wpAnyH_ready (rs := [15]) (by kernel_rfl) (by simp) ?_
        refine AllReadyH.cons (o := ⟨none, Op.store 3 (Operand.tmp 136) (Operand.tmp 134), 0, "simplex.go:150", #[eD 14, eD 11, eC 13, eP 0, eP 1, eP 2, eP 3, eP 4, eP 5, eP 6, eP 7, eP 8, eP 9, eP 10, eP 11, eP 12, eP 13], none⟩) rfl (fun K hK => ?_) AllReadyH.nil
        have h10 := h8.setTold (v := I) hl
        have z0 := h10.tab.col c hc
        have f0 := h10.mem.fc c
        obtain ⟨W4, hW4⟩ : ∃ W4, ((W3.setCell ⟨L.gt, l, none⟩ (.int .i64 (I : Int))).setCell ⟨L.gc, c, none⟩ (.int .i64 (O : Int))).drew = W4 := ⟨_, rfl⟩
        have h12 : TurnS w.heap.size B w S L P { U with T := t.T } W4 := by rw [← hW4]; exact ((h10.setCol (v := O) hc).congr (u := { U with T := t.T }) HUT.out.symm HUC.out.symm rfl (fun _ _ _ _ => rfl)).drew
        have HW4 := hide hW4
        clear hW4
        go_simp
        refine hK.out _ _ ⟨by show ((W3.setCell ⟨L.gt, l, none⟩ (.int .i64 (I : Int))).setCell ⟨L.gc, c, none⟩ (.int .i64 (O : Int))).cell? _ = _; rw [World.cell?_setCell_other _ _ _ _ (show (⟨L.gc, c, none⟩ : Addr) ≠ ⟨L.p, 3, none⟩ from fun e => h8.mem.pc (by injection e with e1; exact e1.symm))]; exact hS.1, by show ((W3.setCell ⟨L.gt, l, none⟩ (.int .i64 (I : Int))).setCell ⟨L.gc, c, none⟩ (.int .i64 (O : Int))).cell? _ = _; rw [World.cell?_setCell_other _ _ _ _ (show (⟨L.gc, c, none⟩ : Addr) ≠ ⟨L.p, 4, none⟩ from fun e => h8.mem.pc (by injection e with e1; exact e1.symm))]; exact hS.2⟩ (fun hS => ?_)
        clear hK K z0 f0
        try simp only [Act.put, sB, sC, sD]
        refine wpAnyH_done (by kernel_rfl) ?_ _
        rw [HW4.out]
        clear HW4 hS k3 k4 h8 h9 h10
        have k5 := h12.tab.c5
        have kr := h12.tab.rows l hl
        rw [a5.out] at k5
        rw [ar.out l hl] at kr
        go_wp2_with fail
        clear k5 kr
        go_loopg [146] S.n (fun k v146 wr => ∃ j : Nat, j + k = S.n ∧ v146 = .int .i64 (j : Int) ∧ TurnS w.heap.size B w S L P { U with T := mixT t.T U.T (fun l' c' => l' = l ∧ c' < j ∧ c' ≠ c) } wr)
        case atStart => exact ⟨0, by omega, rfl, h12.mix (fun l' c' _ _ => mixT_no (fun h => absurd h.2.1 (Nat.not_lt_zero _)))⟩
        case round =>
          clear h12
          obtain ⟨j, hjk, rfl, h4⟩ := hrel
          rcases Nat.eq_zero_or_pos gk with h0 | h0
          · subst h0
            obtain rfl : j = S.n := by omega
            obtain ⟨yn, ya, yl, yk, ym, yb, yi, yj, y0, y1, y2, y3, hy⟩ := (h4.box gb _ hpb).2.box
            have HE : Hid (1 / t.T l c = U.T l c) := hide (by rw [HUP.out, pivT_one])
            have z1q : Qz (1 : Rat) := Qn.one.z (by decide)
            go_upto_region 19 with (fail)
            refine wp_region_till (S := fun w' => w'.cell? ⟨gb, 0, none⟩ = some (.bool yn) ∧ w'.cell? ⟨gb, 1, none⟩ = some (.slice ya yl yk) ∧ w'.cell? ⟨gb, 2, none⟩ = some (.bool ym) ∧ w'.cell? ⟨gb, 3, none⟩ = some (.slice yb yi yj) ∧ Below wr.heap.size wr w') (fun i => decide (i < 6)) (by kernel_rfl) (⟨y0, y1, y2, y3, (Below.refl _ _).drew⟩) (fun hS => ?_)
            refine Till_take (i := 0) (oi := ⟨some 167, Op.move (Operand.tmp 13), 25, "simplex.go:157", #[], none⟩) (v := ?_) rfl (by kernel_rfl) (by kernel_rfl) (by kernel_rfl) (fun _ _ _ h => h) rfl (by kernel_rfl) (Or.inl ⟨by rfl, ?_⟩) hS ?_
            rotate_left
            · (intro w' hSw; (try dsimp only at hSw); go_simp; try with_reducible rfl)
            try simp only [Act.put, sB, sC, sD]
            refine Till_take (i := 1) (oi := ⟨some 168, Op.move (Operand.tmp 2), 3, "simplex.go:157", #[], none⟩) (v := ?_) rfl (by kernel_rfl) (by kernel_rfl) (by kernel_rfl) (fun _ _ _ h => h) rfl (by kernel_rfl) (Or.inl ⟨by rfl, ?_⟩) hS ?_
            rotate_left
            · (intro w' hSw; (try dsimp only at hSw); go_simp; try with_reducible rfl)
            try simp only [Act.put, sB, sC, sD]
            refine Till_take (i := 4) (oi := ⟨some 171, Op.load 39 (Operand.tmp 8), 39, "simplex.go:157", #[], none⟩) (v := ?_) rfl (by kernel_rfl) (by kernel_rfl) (by kernel_rfl) (fun _ _ _ h => h) rfl (by kernel_rfl) (Or.inl ⟨by rfl, ?_⟩) hS ?_
            rotate_left
            · (intro w' hSw; (try dsimp only at hSw); go_simp; try with_reducible rfl)
            try simp only [Act.put, sB, sC, sD]
            refine Till_ready (rs := [2]) (by kernel_rfl) (by kernel_rfl) (by simp) ?_
            refine AllReadyT.cons (o := ⟨some 169, Op.call { callee := Callee.value (Operand.func 42), args := #[Operand.const (Value.int IntKind.i64 1)], argTypes := #[2] }, 37, "simplex.go:157", #[], none⟩) rfl (fun K hK => ?_) AllReadyT.nil
            go_simp
            (go_at_call 42; (with_reducible refine (Of_any 1 _ (by decide) (by decide)).mono ?_); rintro e wA ⟨rA, rfl, hA, hb1⟩)
            go_wp2_with fail
            refine hK.out _ _ (keepZ4 hS hb1) (fun hS => ?_)
            clear hK K hb1
            try simp only [Act.put, sB, sC, sD]
            refine Till_ready (rs := [3]) (by kernel_rfl) (by kernel_rfl) (by simp) ?_
            refine AllReadyT.cons (o := ⟨some 170, Op.call { callee := Callee.value (Operand.func 41), args := #[Operand.tmp 169], argTypes := #[37] }, 39, "simplex.go:157", #[eD 2, eC 2], none⟩) rfl (fun K hK => ?_) AllReadyT.nil
            go_simp
            (go_at_call 41; (with_reducible refine (FOf2_any _ hA (sm_small (by decide))).mono ?_); rintro e wC ⟨rC, rfl, hC, hb1⟩)
            replace hC : FracV wC rC (1 : Rat) := hC
            go_wp2_with fail
            refine hK.out _ _ (keepZ4 hS hb1) (fun hS => ?_)
            clear hK K hb1
            try simp only [Act.put, sB, sC, sD]
            refine Till_ready (rs := [5]) (by kernel_rfl) (by kernel_rfl) (by simp) ?_
            refine AllReadyT.cons (o := ⟨some 172, Op.call { callee := Callee.value (Operand.func 57), args := #[Operand.tmp 170, Operand.tmp 171], argTypes := #[39, 39] }, 39, "simplex.go:157", #[eD 3, eD 4, eC 3], none⟩) rfl (fun K hK => ?_) AllReadyT.nil
            go_simp
            (go_at_call 57; (with_reducible refine (FDiv_any _ hC (hy.below (hS.2.2.2.2) (Nat.le_refl _)) z1q ((HZT.out l c hl hc).z (by decide))).mono ?_); rintro e wN ⟨rN, rfl, hN, hb1⟩)
            obtain ⟨un, ua, ul, uk, um, ub, ui, uj, rfl, -, -⟩ := FracV.parts hN
            rw [HE.out] at hN
            go_wp2_with fail
            refine hK.out _ _ (keepZ4 hS hb1) (fun hS => ?_)
            clear hK K hb1
            try simp only [Act.put, sB, sC, sD]
            refine Till_turn (by kernel_rfl) ?_
            refine wpAnyH_take (i := 6) (oi := ⟨some 173, Op.indexAddr 25 (Operand.tmp 167) (Operand.tmp 168), 0, "simplex.go:157", #[eD 0, eD 1, eP 0, eP 1, eP 2, eP 3, eP 4, eP 5], none⟩) (v := ?_) rfl (by kernel_rfl) (by kernel_rfl) (by kernel_rfl) (fun _ _ _ h => h) (Or.inl ⟨by rfl, ?_⟩) trivial ?_
            rotate_left
            · (intro w' hSw; (try dsimp only at hSw); go_simp; try with_reducible rfl)
            try simp only [Act.put, sB, sC, sD]
            refine wpAnyH_ready (rs := [7]) (by kernel_rfl) (by simp) ?_
            refine AllReadyH.cons (o := ⟨none, Op.store 39 (Operand.tmp 173) (Operand.tmp 172), 0, "simplex.go:157", #[eD 6, eD 5, eC 5, eP 0, eP 1, eP 2, eP 3, eP 4, eP 5], none⟩) rfl (fun K hK => ?_) AllReadyH.nil
            have h7 := h4.below (hS.2.2.2.2)
            obtain ⟨_, _, _, _, _, _, _, _, z0, z1, z2, z3, -⟩ := h7.tab.T l c hl hc
            have f0 := h7.mem.fr l hl (c * 4)
            have f1 := h7.mem.fr l hl (c * 4 + 1)
            have f2 := h7.mem.fr l hl (c * 4 + 2)
            have f3 := h7.mem.fr l hl (c * 4 + 3)
            obtain ⟨W3, hW3⟩ : ∃ W3, put4 wN (L.row l) (c * 4) (.bool un) (.slice ua ul uk) (.bool um) (.slice ub ui uj) = W3 := ⟨_, rfl⟩
            have h8 : TurnS w.heap.size B w S L P { U with T := mixT t.T U.T (fun l' c' => l' = l ∧ c' < S.n) } W3 := by rw [← hW3]; exact TurnS.mix (h7.setT hl hc hN) (fun l' c' _ _ => mixT_set (fun l' c' => by show (l' = l ∧ c' < S.n) ↔ ((l' = l ∧ c' < S.n ∧ c' ≠ c) ∨ (l' = l ∧ c' = c)); omega) l' c')
            simp only [put4] at hW3
            have HW3 := hide hW3
            clear hW3
            go_simp
            refine hK.out _ _ trivial (fun _ => ?_)
            clear hK K z0 z1 z2 z3 f0 f1 f2 f3
            try simp only [Act.put, sB, sC, sD]
            refine wpAnyH_done (by kernel_rfl) ?_ _
            rw [HW3.out]
            clear HW3 hS y0 y1 y2 y3 hy h4 h7 HE
            have k5 := h8.tab.c5
            rw [a5.out] at k5
            go_wp2_with fail
            clear k5
            go_loopg [179] S.m (fun k v179 wr => ∃ j : Nat, j + k = S.m ∧ v179 = .int .i64 (j : Int) ∧ TurnS w.heap.size B w S L P { U with T := mixT t.T U.T (fun l' c' => (l' = l ∧ c' < S.n) ∨ (l' < j ∧ c' < S.n)) } wr)
            case atStart => exact ⟨0, by omega, rfl, h8.mix (fun l' c' _ _ => mixT_grow (fun l' c' h => .inl h) (fun l' c' h hn => h.elim (fun h => absurd h hn) (fun h => absurd h.1 (Nat.not_lt_zero _))) l' c')⟩
            case round =>
              clear h8
              obtain ⟨j, hjk, rfl, h4⟩ := hrel
              rcases Nat.eq_zero_or_pos gk with h0 | h0
              · subst h0
                obtain rfl : j = S.m := by omega
                go_wp2_with fail
                refine ⟨rfl, .tuple #[], by simp [results, Tryz.results28, go_sem], ?_⟩
                rw [← HP.out]
                have h9 : TurnS w.heap.size B w S L P U wr := h4.congr rfl rfl rfl (fun l' c' hl' hc' => (mixT_yes (T := t.T) (U := U.T) (p := fun l' c' => (l' = l ∧ c' < S.n) ∨ (l' < S.m ∧ c' < S.n)) (.inr ⟨hl', hc'⟩)).symm)
                exact ⟨rfl, h9.tab, h9.mem, h9.bel⟩
              · have hj : j < S.m := by omega
                have k5 := h4.tab.c5
                have kr := h4.tab.rows j hj
                rw [a5.out] at k5
                rw [ar.out j hj] at kr
                obtain ⟨X, hX⟩ : ∃ X, mixT t.T U.T (fun l' c' => (l' = l ∧ c' < S.n) ∨ (l' < j ∧ c' < S.n)) j c = X := ⟨_, rfl⟩
                have e := h4.tab.T j c hj hc
                change FAt _ _ _ (mixT t.T U.T (fun l' c' => (l' = l ∧ c' < S.n) ∨ (l' < j ∧ c' < S.n)) j c) at e
                rw [hX] at e
                obtain ⟨xn, xa, xl, xk, xm, xb, xi, xj, x0, x1, x2, x3, hx⟩ := e
                replace hX := hide hX
                obtain ⟨W2, hW2⟩ : ∃ W2, wr.alloc (.cells #[.bool xn, .slice xa xl xk, .bool xm, .slice xb xi xj] 39) = W2 := ⟨_, rfl⟩
                have bx : Blk W2 wr.heap.size 39 #[.bool xn, .slice xa xl xk, .bool xm, .slice xb xi xj] := by rw [← hW2]; exact Blk.new wr _ _
                have sb2 : Below wr.heap.size wr W2 := by rw [← hW2]; exact (Below.refl wr.heap.size wr).alloc (Nat.le_refl _) _
                replace HW2 := hide hW2
                clear hW2
                have hx2 := hx.below sb2 (Nat.le_refl _)
                have hNw : w.heap.size ≤ wr.heap.size := Nat.le_trans (h4.box gb _ hpb).1 (Nat.le_of_lt (h4.box gb _ hpb).2.lt)
                have h5 := h4.below sb2
                have ej : (j : Int) < (S.m : Int) := by omega
                clear hx
                go_upto_region 24 with (fail)
                rw [HW2.out]
                clear HW2 x0 x1 x2 x3 k5 kr
                obtain ⟨b0, b1, b2, b3, -⟩ := bx.c4
                by_cases hjl : j = l
                · have e1 : ((j : Int) == (l : Int)) = true := by simp [hjl]
                  have e2 : ((j : Int) != (l : Int)) = false := by simp [hjl]
                  replace hjl := hide hjl
                  go_wp2_with fail
                  go_roundg (gk - 1)
                  case measure => omega
                  case rel =>
                    have h7 := hjl.out
                    exact ⟨j + 1, by omega, by go_num, h5.mix (fun l' c' _ _ => mixT_grow (fun l' c' h => by omega) (fun l' c' h hn => by omega) l' c')⟩
                · have e1 : ((j : Int) == (l : Int)) = false := beq_eq_false_iff_ne.2 (by omega)
                  have e2 : ((j : Int) != (l : Int)) = true := by simp [bne, e1]
                  have e3 : ¬(j : Int) = (l : Int) := by omega
                  obtain rfl : t.T j c = X := by
                    rw [← hX.out]
                    exact (mixT_no (by omega)).symm
                  have zx : Qz (t.T j c) := (HZT.out j c hj hc).z (by decide)
                  obtain ⟨C, hC⟩ : ∃ C, ordQ (t.T j c) 0 = C := ⟨_, rfl⟩
                  have HC := hide hC
                  clear hC
                  replace hjl := hide hjl
                  go_wp2_with fail
                  refine (sign_at hx2 zx HC.out).mono ?_
                  rintro e w5 ⟨rfl, hb5⟩
                  have h6 := h5.below hb5
                  by_cases hT0 : t.T j c = 0
                  · obtain rfl : C = 0 := HC.out.symm.trans (ordQ_00 hT0)
                    have HE : Hid (∀ c', U.T j c' = t.T j c') := hide (fun c' => by
                      rw [HUP.out]
                      by_cases h : c' = c
                      · rw [h, pivT_col hjl.out, hT0]; grind
                      · rw [pivT_far hjl.out h, hT0]; grind)
                    clear hT0 e1 e2 e3
                    go_wp2_with fail
                    go_roundg (gk - 1)
                    case measure => omega
                    case rel =>
                      exact ⟨j + 1, by omega, by go_num, h6.mix (fun l' c' _ _ => mixT_grow (fun l' c' h => by omega) (fun l' c' h hn => by
                        have h8 : l' = j := by omega
                        rw [h8]; exact HE.out c') l' c')⟩
                  · have f1 : ¬C = 0 := by rw [← HC.out]; exact ordQ_ne hT0
                    have f2 : (C != 0) = true := by simp [f1]
                    have f3 : (C == 0) = false := by simp [f1]
                    obtain ⟨gq, hgq⟩ : ∃ gq, wr.heap.size = gq := ⟨_, rfl⟩
                    rw [hgq] at bx hNw sb2 b0 b1 b2 b3 ⊢
                    obtain ⟨P3, h7, hpb3, hpq, hsub⟩ : ∃ P3 : Nat → Rat → Prop, TurnS w.heap.size B w S L P3 { U with T := mixT t.T U.T (fun l' c' => (l' = l ∧ c' < S.n) ∨ (l' < j ∧ c' < S.n)) } w5 ∧ P3 gb (t.T l c) ∧ P3 gq (t.T j c) ∧ (∀ g q, P g q → P3 g q) :=
                      ⟨_, h6.push (g := gq) (q := t.T j c) hNw ((FAt.of bx hx2).below hb5 (Nat.le_refl _)), .inl hpb, .inr ⟨rfl, rfl⟩, fun _ _ h => .inl h⟩
                    replace hsub := hide hsub
                    have HG := hide hgq
                    clear hgq hT0 b0 b1 b2 b3 bx hx2 h4 h5 h6 sb2 hb5
                    go_wp2_with fail
                    clear e1 e2 e3 f1 f2 f3
                    obtain ⟨gk1, hK1⟩ : ∃ K1, K1 = gk := ⟨_, rfl⟩
                    subst hK1
                    go_loopg [198] S.n (fun k v198 wr => ∃ i : Nat, i + k = S.n ∧ v198 = .int .i64 (i : Int) ∧ TurnS w.heap.size B w S L P3 { U with T := mixT t.T U.T (fun l' c' => (l' = l ∧ c' < S.n) ∨ (l' < j ∧ c' < S.n) ∨ (l' = j ∧ c' < i)) } wr)
                    case atStart => exact ⟨0, by omega, rfl, h7.mix (fun l' c' _ _ => mixT_grow (fun l' c' h => by omega) (fun l' c' h hn => by omega) l' c')⟩
                    case round =>
                      clear h7
                      obtain ⟨i, hik, rfl, h4⟩ := hrel
                      rcases Nat.eq_zero_or_pos gk with h0 | h0
                      · subst h0
                        obtain rfl : i = S.n := by omega
                        go_wp2_with fail
                        go_roundg (gk1 - 1)
                        case measure => omega
                        case rel =>
                          exact ⟨j + 1, by omega, by go_num, (h4.sub hsub.out).mix (fun l' c' _ _ => mixT_grow (fun l' c' h => by omega) (fun l' c' h hn => by omega) l' c')⟩
                      · have hi' : i < S.n := by omega
                        have e := h4.tab.T l i hl hi'
                        have e2 : mixT t.T U.T (fun l' c' => (l' = l ∧ c' < S.n) ∨ (l' < j ∧ c' < S.n) ∨ (l' = j ∧ c' < i)) l i = U.T l i := mixT_yes (.inl ⟨rfl, hi'⟩)
                        change FAt _ _ _ (mixT t.T U.T (fun l' c' => (l' = l ∧ c' < S.n) ∨ (l' < j ∧ c' < S.n) ∨ (l' = j ∧ c' < i)) l i) at e
                        rw [e2] at e
                        clear e2
                        have hjl2 := hjl.out
                        have fz : FAt wr (L.row j) (i * 4) (t.T j i) := by
                          have e := h4.tab.T j i hj hi'
                          have e2 : mixT t.T U.T (fun l' c' => (l' = l ∧ c' < S.n) ∨ (l' < j ∧ c' < S.n) ∨ (l' = j ∧ c' < i)) j i = t.T j i := mixT_no (by omega)
                          change FAt _ _ _ (mixT t.T U.T (fun l' c' => (l' = l ∧ c' < S.n) ∨ (l' < j ∧ c' < S.n) ∨ (l' = j ∧ c' < i)) j i) at e
                          rw [e2] at e
                          exact e
                        clear hjl2
                        obtain ⟨yn, ya, yl, yk, ym, yb, yi, yj, y0, y1, y2, y3, hy⟩ := e
                        obtain ⟨xn, xa, xl, xk, xm, xb, xi, xj, x0, x1, x2, x3, hx⟩ := (h4.box gq _ hpq).2.box
                        have qy : Qn 20000000 (U.T l i) := by rw [HUP.out]; exact pivT_row_size (HZT.out l i hl hi') (HZT.out l c hl hc) (by decide)
                        have zy : Qz (U.T l i) := qy.z (by decide)
                        have zx : Qz (t.T j c) := (HZT.out j c hj hc).z (by decide)
                        have zxy : Qz (t.T j c * U.T l i) := (Qn.mul (HZT.out j c hj hc) qy).z (by decide)
                        have zz : Qz (t.T j i) := (HZT.out j i hj hi').z (by decide)
                        obtain ⟨W2, hW2⟩ : ∃ W2, wr.alloc (.cells #[.bool yn, .slice ya yl yk, .bool ym, .slice yb yi yj] 39) = W2 := ⟨_, rfl⟩
                        have bx : Blk W2 wr.heap.size 39 #[.bool yn, .slice ya yl yk, .bool ym, .slice yb yi yj] := by rw [← hW2]; exact Blk.new wr _ _
                        have sb2 : Below wr.heap.size wr W2 := by rw [← hW2]; exact (Below.refl wr.heap.size wr).alloc (Nat.le_refl _) _
                        replace HW2 := hide hW2
                        clear hW2
                        have hy2 := hy.below sb2 (Nat.le_refl _)
                        have hx2 := hx.below sb2 (Nat.le_refl _)
                        have fz2 := fz.below sb2 (Nat.le_refl _)
                        replace x0 := cellB x0 sb2 (Nat.le_refl _)
                        replace x1 := cellB x1 sb2 (Nat.le_refl _)
                        replace x2 := cellB x2 sb2 (Nat.le_refl _)
                        replace x3 := cellB x3 sb2 (Nat.le_refl _)
                        have h5 := h4.below sb2
                        have ej : (i : Int) < (S.n : Int) := by omega
                        clear hy hx fz
                        go_upto_region 28 with (fail)
                        rw [HW2.out]
                        clear HW2 y0 y1 y2 y3
                        obtain ⟨b0, b1, b2, b3, -⟩ := bx.c4
                        by_cases hic : i = c
                        · have e1 : ((i : Int) == (c : Int)) = true := by simp [hic]
                          have HE : Hid (t.T j c * U.T l i = U.T j i) := hide (by rw [HUP.out, hic, pivT_one, pivT_col hjl.out])
                          replace hic := hide hic
                          go_wp2_with fail
                          refine (FMul_any _ hx2 hy2 zx zy).mono ?_
                          rintro e w6 ⟨rN, rfl, hN, hb6⟩
                          rw [HE.out] at hN
                          obtain ⟨un, ua, ul, uk, um, ub, ui, uj, rfl, -, -⟩ := FracV.parts hN
                          have h7 := h5.below hb6
                          obtain ⟨_, _, _, _, _, _, _, _, z0, z1, z2, z3, -⟩ := h7.tab.T j i hj hi'
                          have f0 := h7.mem.fr j hj (i * 4)
                          have f1 := h7.mem.fr j hj (i * 4 + 1)
                          have f2 := h7.mem.fr j hj (i * 4 + 2)
                          have f3 := h7.mem.fr j hj (i * 4 + 3)
                          clear x0 x1 x2 x3 b0 b1 b2 b3
                          go_wp2_with fail
                          clear z0 z1 z2 z3 f0 f1 f2 f3
                          go_roundg (gk - 1)
                          case measure => omega
                          case rel =>
                            exact ⟨i + 1, by omega, by go_num, TurnS.mix (h7.setT hj hi' hN) (fun l' c' _ _ => mixT_set (fun l' c' => by show ((l' = l ∧ c' < S.n) ∨ (l' < j ∧ c' < S.n) ∨ (l' = j ∧ c' < i + 1)) ↔ (((l' = l ∧ c' < S.n) ∨ (l' < j ∧ c' < S.n) ∨ (l' = j ∧ c' < i)) ∨ (l' = j ∧ c' = i)); omega) l' c')⟩
                        · have e1 : ((i : Int) == (c : Int)) = false := beq_eq_false_iff_ne.2 (by omega)
                          have e2 : ¬(i : Int) = (c : Int) := by omega
                          have HE : Hid (t.T j i + t.T j c * U.T l i = U.T j i) := hide (by rw [HUP.out, pivT_row hic, pivT_far hjl.out hic])
                          obtain ⟨C, hC⟩ : ∃ C, ordQ (U.T l i) 0 = C := ⟨_, rfl⟩
                          have HC := hide hC
                          clear hC
                          replace hic := hide hic
                          go_wp2_with fail
                          refine (sign_at hy2 zy HC.out).mono ?_
                          rintro e w5 ⟨rfl, hb5⟩
                          have h6 := h5.below hb5
                          by_cases hT0 : U.T l i = 0
                          · obtain rfl : C = 0 := HC.out.symm.trans (ordQ_00 hT0)
                            have HE2 : Hid (U.T j i = t.T j i) := hide (by rw [← HE.out, hT0]; grind)
                            clear hT0 e1 e2
                            go_wp2_with fail
                            go_roundg (gk - 1)
                            case measure => omega
                            case rel =>
                              exact ⟨i + 1, by omega, by go_num, h6.mix (fun l' c' _ _ => mixT_grow (fun l' c' h => by omega) (fun l' c' h hn => by
                                obtain ⟨h8, h9⟩ : l' = j ∧ c' = i := by omega
                                rw [h8, h9]; exact HE2.out) l' c')⟩
                          · have f1 : ¬C = 0 := by rw [← HC.out]; exact ordQ_ne hT0
                            have f2 : (C != 0) = true := by simp [f1]
                            have f3 : (C == 0) = false := by simp [f1]
                            have hx5 := hx2.below hb5 (Nat.le_refl _)
                            have hy5 := hy2.below hb5 (Nat.le_refl _)
                            replace x0 := cellB x0 hb5 (Nat.le_refl _)
                            replace x1 := cellB x1 hb5 (Nat.le_refl _)
                            replace x2 := cellB x2 hb5 (Nat.le_refl _)
                            replace x3 := cellB x3 hb5 (Nat.le_refl _)
                            replace b0 := cellB b0 hb5 (Nat.le_refl _)
                            replace b1 := cellB b1 hb5 (Nat.le_refl _)
                            replace b2 := cellB b2 hb5 (Nat.le_refl _)
                            replace b3 := cellB b3 hb5 (Nat.le_refl _)
                            obtain ⟨vn, va, vl, vk, vm, vb, vi, vj, v0, v1, v2, v3, hv⟩ := fz2.below hb5 (Nat.le_refl _)
                            clear hT0 bx hx2 hy2 h4 h5
                            go_upto_region 31 with (fail)
                            refine wp_region_till (S := fun w' => w'.cell? ⟨(L.row j), i * 4, none⟩ = some (.bool vn) ∧ w'.cell? ⟨(L.row j), i * 4 + 1, none⟩ = some (.slice va vl vk) ∧ w'.cell? ⟨(L.row j), i * 4 + 2, none⟩ = some (.bool vm) ∧ w'.cell? ⟨(L.row j), i * 4 + 3, none⟩ = some (.slice vb vi vj) ∧ w'.cell? ⟨gq, 0, none⟩ = some (.bool xn) ∧ w'.cell? ⟨gq, 1, none⟩ = some (.slice xa xl xk) ∧ w'.cell? ⟨gq, 2, none⟩ = some (.bool xm) ∧ w'.cell? ⟨gq, 3, none⟩ = some (.slice xb xi xj) ∧ w'.cell? ⟨wr.heap.size, 0, none⟩ = some (.bool yn) ∧ w'.cell? ⟨wr.heap.size, 1, none⟩ = some (.slice ya yl yk) ∧ w'.cell? ⟨wr.heap.size, 2, none⟩ = some (.bool ym) ∧ w'.cell? ⟨wr.heap.size, 3, none⟩ = some (.slice yb yi yj) ∧ Below w5.heap.size w5 w') (fun i => decide (i < 10)) (by kernel_rfl) (⟨v0, v1, v2, v3, x0, x1, x2, x3, b0, b1, b2, b3, (Below.refl _ _).drew⟩) (fun hS => ?_)
                            refine Till_take (i := 0) (oi := ⟨some 217, Op.move (Operand.tmp 17), 25, "simplex.go:168", #[], none⟩) (v := ?_) rfl (by kernel_rfl) (by kernel_rfl) (by kernel_rfl) (fun _ _ _ h => h) rfl (by kernel_rfl) (Or.inl ⟨by rfl, ?_⟩) hS ?_
                            rotate_left
                            · (intro w' hSw; (try dsimp only at hSw); go_simp; try with_reducible rfl)
                            try simp only [Act.put, sB, sC, sD]
                            refine Till_take (i := 1) (oi := ⟨some 218, Op.move (Operand.tmp 19), 3, "simplex.go:168", #[], none⟩) (v := ?_) rfl (by kernel_rfl) (by kernel_rfl) (by kernel_rfl) (fun _ _ _ h => h) rfl (by kernel_rfl) (Or.inl ⟨by rfl, ?_⟩) hS ?_
                            rotate_left
                            · (intro w' hSw; (try dsimp only at hSw); go_simp; try with_reducible rfl)
                            try simp only [Act.put, sB, sC, sD]
                            refine Till_take (i := 2) (oi := ⟨some 219, Op.move (Operand.tmp 17), 25, "simplex.go:168", #[], none⟩) (v := ?_) rfl (by kernel_rfl) (by kernel_rfl) (by kernel_rfl) (fun _ _ _ h => h) rfl (by kernel_rfl) (Or.inl ⟨by rfl, ?_⟩) hS ?_
                            rotate_left
                            · (intro w' hSw; (try dsimp only at hSw); go_simp; try with_reducible rfl)
                            try simp only [Act.put, sB, sC, sD]
                            refine Till_take (i := 3) (oi := ⟨some 220, Op.move (Operand.tmp 19), 3, "simplex.go:168", #[], none⟩) (v := ?_) rfl (by kernel_rfl) (by kernel_rfl) (by kernel_rfl) (fun _ _ _ h => h) rfl (by kernel_rfl) (Or.inl ⟨by rfl, ?_⟩) hS ?_
                            rotate_left
                            · (intro w' hSw; (try dsimp only at hSw); go_simp; try with_reducible rfl)
                            try simp only [Act.put, sB, sC, sD]
                            refine Till_take (i := 4) (oi := ⟨some 221, Op.indexAddr 25 (Operand.tmp 219) (Operand.tmp 220), 0, "simplex.go:168", #[eD 2, eD 3], none⟩) (v := ?_) rfl (by kernel_rfl) (by kernel_rfl) (by kernel_rfl) (fun _ _ _ h => h) rfl (by kernel_rfl) (Or.inl ⟨by rfl, ?_⟩) hS ?_
                            rotate_left
                            · (intro w' hSw; (try dsimp only at hSw); go_simp; try with_reducible rfl)
                            try simp only [Act.put, sB, sC, sD]
                            refine Till_take (i := 5) (oi := ⟨some 222, Op.load 39 (Operand.tmp 221), 39, "simplex.go:168", #[eD 4], none⟩) (v := ?_) rfl (by kernel_rfl) (by kernel_rfl) (by kernel_rfl) (fun _ _ _ h => h) rfl (by kernel_rfl) (Or.inl ⟨by rfl, ?_⟩) hS ?_
                            rotate_left
                            · (intro w' hSw; (try dsimp only at hSw); go_simp; try with_reducible rfl)
                            try simp only [Act.put, sB, sC, sD]
                            refine Till_take (i := 6) (oi := ⟨some 223, Op.load 39 (Operand.tmp 18), 39, "simplex.go:168", #[], none⟩) (v := ?_) rfl (by kernel_rfl) (by kernel_rfl) (by kernel_rfl) (fun _ _ _ h => h) rfl (by kernel_rfl) (Or.inl ⟨by rfl, ?_⟩) hS ?_
                            rotate_left
                            · (intro w' hSw; (try dsimp only at hSw); go_simp; try with_reducible rfl)
                            try simp only [Act.put, sB, sC, sD]
                            refine Till_take (i := 7) (oi := ⟨some 224, Op.load 39 (Operand.tmp 20), 39, "simplex.go:168", #[], none⟩) (v := ?_) rfl (by kernel_rfl) (by kernel_rfl) (by kernel_rfl) (fun _ _ _ h => h) rfl (by kernel_rfl) (Or.inl ⟨by rfl, ?_⟩) hS ?_
                            rotate_left
                            · (intro w' hSw; (try dsimp only at hSw); go_simp; try with_reducible rfl)
                            try simp only [Act.put, sB, sC, sD]
                            refine Till_ready (rs := [8]) (by kernel_rfl) (by kernel_rfl) (by simp) ?_
                            refine AllReadyT.cons (o := ⟨some 225, Op.call { callee := Callee.value (Operand.func 15), args := #[Operand.tmp 223, Operand.tmp 224], argTypes := #[39, 39] }, 39, "simplex.go:168", #[eD 6, eD 7], none⟩) rfl (fun K hK => ?_) AllReadyT.nil
                            go_simp
                            (go_at_call 15; (with_reducible refine (FMul_any _ (hx5.below (hS.2.2.2.2.2.2.2.2.2.2.2.2) (Nat.le_refl _)) (hy5.below (hS.2.2.2.2.2.2.2.2.2.2.2.2) (Nat.le_refl _)) zx zy).mono ?_); rintro e wA ⟨rA, rfl, hA, hb1⟩)
                            go_wp2_with fail
                            refine hK.out _ _ (keepZ12 hS hb1) (fun hS => ?_)
                            clear hK K hb1
                            try simp only [Act.put, sB, sC, sD]
                            refine Till_ready (rs := [9]) (by kernel_rfl) (by kernel_rfl) (by simp) ?_
                            refine AllReadyT.cons (o := ⟨some 226, Op.call { callee := Callee.value (Operand.func 14), args := #[Operand.tmp 222, Operand.tmp 225], argTypes := #[39, 39] }, 39, "simplex.go:168", #[eD 5, eD 8, eC 8], none⟩) rfl (fun K hK => ?_) AllReadyT.nil
                            go_simp
                            (go_at_call 14; (with_reducible refine (FAdd_any _ (hv.below (hS.2.2.2.2.2.2.2.2.2.2.2.2) (Nat.le_refl _)) hA zz zxy).mono ?_); rintro e wN ⟨rN, rfl, hN, hb1⟩)
                            obtain ⟨un, ua, ul, uk, um, ub, ui, uj, rfl, -, -⟩ := FracV.parts hN
                            rw [HE.out] at hN
                            go_wp2_with fail
                            refine hK.out _ _ (keepZ12 hS hb1) (fun hS => ?_)
                            clear hK K hb1
                            try simp only [Act.put, sB, sC, sD]
                            refine Till_turn (by kernel_rfl) ?_
                            refine wpAnyH_take (i := 10) (oi := ⟨some 227, Op.indexAddr 25 (Operand.tmp 217) (Operand.tmp 218), 0, "simplex.go:168", #[eD 0, eD 1, eP 0, eP 1, eP 2, eP 3, eP 4, eP 5, eP 6, eP 7, eP 8, eP 9], none⟩) (v := ?_) rfl (by kernel_rfl) (by kernel_rfl) (by kernel_rfl) (fun _ _ _ h => h) (Or.inl ⟨by rfl, ?_⟩) trivial ?_
                            rotate_left
                            · (intro w' hSw; (try dsimp only at hSw); go_simp; try with_reducible rfl)
                            try simp only [Act.put, sB, sC, sD]
                            refine wpAnyH_ready (rs := [11]) (by kernel_rfl) (by simp) ?_
                            refine AllReadyH.cons (o := ⟨none, Op.store 39 (Operand.tmp 227) (Operand.tmp 226), 0, "simplex.go:168", #[eD 10, eD 9, eC 9, eP 0, eP 1, eP 2, eP 3, eP 4, eP 5, eP 6, eP 7, eP 8, eP 9], none⟩) rfl (fun K hK => ?_) AllReadyH.nil
                            have h7 := h6.below (hS.2.2.2.2.2.2.2.2.2.2.2.2)
                            obtain ⟨_, _, _, _, _, _, _, _, z0, z1, z2, z3, -⟩ := h7.tab.T j i hj hi'
                            have f0 := h7.mem.fr j hj (i * 4)
                            have f1 := h7.mem.fr j hj (i * 4 + 1)
                            have f2 := h7.mem.fr j hj (i * 4 + 2)
                            have f3 := h7.mem.fr j hj (i * 4 + 3)
                            obtain ⟨W3, hW3⟩ : ∃ W3, put4 wN (L.row j) (i * 4) (.bool un) (.slice ua ul uk) (.bool um) (.slice ub ui uj) = W3 := ⟨_, rfl⟩
                            have h8 : TurnS w.heap.size B w S L P3 { U with T := mixT t.T U.T (fun l' c' => (l' = l ∧ c' < S.n) ∨ (l' < j ∧ c' < S.n) ∨ (l' = j ∧ c' < i + 1)) } W3 := by rw [← hW3]; exact TurnS.mix (h7.setT hj hi' hN) (fun l' c' _ _ => mixT_set (fun l' c' => by show ((l' = l ∧ c' < S.n) ∨ (l' < j ∧ c' < S.n) ∨ (l' = j ∧ c' < i + 1)) ↔ (((l' = l ∧ c' < S.n) ∨ (l' < j ∧ c' < S.n) ∨ (l' = j ∧ c' < i)) ∨ (l' = j ∧ c' = i)); omega) l' c')
                            simp only [put4] at hW3
                            have HW3 := hide hW3
                            clear hW3
                            go_simp
                            refine hK.out _ _ trivial (fun _ => ?_)
                            clear hK K z0 z1 z2 z3 f0 f1 f2 f3
                            try simp only [Act.put, sB, sC, sD]
                            refine wpAnyH_done (by kernel_rfl) ?_ _
                            rw [HW3.out]
                            clear HW3 hS x0 x1 x2 x3 b0 b1 b2 b3 v0 v1 v2 v3 hv hx5 hy5 e1 e2 f1 f2 f3 h7 h6
                            go_wp2_with fail
                            go_roundg (gk - 1)
                            case measure => omega
                            case rel => exact ⟨i + 1, by omega, by go_num, h8⟩
          · have hj : j < S.n := by omega
            have e := h4.tab.T l j hl hj
            have e2 : mixT t.T U.T (fun l' c' => l' = l ∧ c' < j ∧ c' ≠ c) l j = t.T l j := mixT_no (fun h => absurd h.2.1 (Nat.lt_irrefl _))
            change FAt _ _ _ (mixT t.T U.T (fun l' c' => l' = l ∧ c' < j ∧ c' ≠ c) l j) at e
            rw [e2] at e
            obtain ⟨xn, xa, xl, xk, xm, xb, xi, xj, x0, x1, x2, x3, hx⟩ := e
            clear e2
            have zx : Qz (t.T l j) := (HZT.out l j hl hj).z (by decide)
            obtain ⟨W2, hW2⟩ : ∃ W2, wr.alloc (.cells #[.bool xn, .slice xa xl xk, .bool xm, .slice xb xi xj] 39) = W2 := ⟨_, rfl⟩
            have bx : Blk W2 wr.heap.size 39 #[.bool xn, .slice xa xl xk, .bool xm, .slice xb xi xj] := by rw [← hW2]; exact Blk.new wr _ _
            have sb2 : Below wr.heap.size wr W2 := by rw [← hW2]; exact (Below.refl wr.heap.size wr).alloc (Nat.le_refl _) _
            replace HW2 := hide hW2
            clear hW2
            have hx2 := hx.below sb2 (Nat.le_refl _)
            have h5 := h4.below sb2
            have ej : (j : Int) < (S.n : Int) := by omega
            obtain ⟨C, hC⟩ : ∃ C, ordQ (t.T l j) 0 = C := ⟨_, rfl⟩
            have HC := hide hC
            clear hC hx
            go_upto_region 16 with (fail)
            rw [HW2.out]
            clear HW2 x0 x1 x2 x3
            obtain ⟨b0, b1, b2, b3, -⟩ := bx.c4
            by_cases hjc : j = c
            · have e1 : ((j : Int) == (c : Int)) = true := by simp [hjc]
              have e2 : ((j : Int) != (c : Int)) = false := by simp [hjc]
              replace hjc := hide hjc
              go_wp2_with fail
              go_roundg (gk - 1)
              case measure => omega
              case rel =>
                have h7 := hjc.out
                exact ⟨j + 1, by omega, by go_num, h5.mix (fun l' c' _ _ => mixT_grow (fun l' c' h => ⟨h.1, by have := h.2.1; omega, h.2.2⟩) (fun l' c' h hn => absurd ⟨h.1, by have := h.2.1; have := h.2.2; omega, h.2.2⟩ hn) l' c')⟩
            · have e1 : ((j : Int) == (c : Int)) = false := beq_eq_false_iff_ne.2 (by omega)
              have e2 : ((j : Int) != (c : Int)) = true := by simp [bne, e1]
              have e3 : ¬(j : Int) = (c : Int) := by omega
              replace hjc := hide hjc
              go_wp2_with fail
              refine (sign_at hx2 zx HC.out).mono ?_
              rintro e w5 ⟨rfl, hb5⟩
              have h6 := h5.below hb5
              by_cases hT0 : t.T l j = 0
              · obtain rfl : C = 0 := HC.out.symm.trans (ordQ_00 hT0)
                have HE : Hid (U.T l j = t.T l j) := hide (by rw [HUP.out, pivT_row hjc.out, hT0]; grind)
                clear hT0 e1 e2 e3
                go_wp2_with fail
                go_roundg (gk - 1)
                case measure => omega
                case rel =>
                  have h7 := hjc.out
                  exact ⟨j + 1, by omega, by go_num, h6.mix (fun l' c' _ _ => mixT_grow (fun l' c' h => ⟨h.1, by have := h.2.1; omega, h.2.2⟩) (fun l' c' h hn => by
                    have h8 : c' = j := Classical.byContradiction fun h9 => hn ⟨h.1, by have := h.2.1; omega, h.2.2⟩
                    rw [h.1, h8]; exact HE.out) l' c')⟩
              · have f1 : ¬C = 0 := by rw [← HC.out]; exact ordQ_ne hT0
                have f2 : (C != 0) = true := by simp [f1]
                have f3 : (C == 0) = false := by simp [f1]
                have HE : Hid (-(t.T l j / t.T l c) = U.T l j) := hide (by rw [HUP.out, pivT_row hjc.out])
                have hx5 := hx2.below hb5 (Nat.le_refl _)
                have c0 := cellB b0 hb5 (Nat.le_refl _)
                have c1 := cellB b1 hb5 (Nat.le_refl _)
                have c2 := cellB b2 hb5 (Nat.le_refl _)
                have c3 := cellB b3 hb5 (Nat.le_refl _)
                obtain ⟨yn, ya, yl, yk, ym, yb, yi, yj, y0, y1, y2, y3, hy⟩ := (h6.box gb _ hpb).2.box
                have zd : Qz (t.T l j / t.T l c) := (Qn.div (HZT.out l j hl hj) (HZT.out l c hl hc)).z (by decide)
                clear hT0 b0 b1 b2 b3 bx hx2 h4 h5
                go_wp2_with fail
                refine (FDiv_any _ hx5 hy zx zy).mono ?_
                rintro e w6 ⟨rA, rfl, hA, hb6⟩
                clear c0 c1 c2 c3 y0 y1 y2 y3 e1 e2 e3 f1 f2 f3
                go_wp2_with fail
                refine (FNeg_any _ hA zd).mono ?_
                rintro e w7 ⟨rN, rfl, hN, hb7⟩
                rw [HE.out] at hN
                obtain ⟨un, ua, ul, uk, um, ub, ui, uj, rfl, -, -⟩ := FracV.parts hN
                have h7 := (h6.below hb6).below hb7
                obtain ⟨_, _, _, _, _, _, _, _, z0, z1, z2, z3, -⟩ := h7.tab.T l j hl hj
                have f0 := h7.mem.fr l hl (j * 4)
                have f1 := h7.mem.fr l hl (j * 4 + 1)
                have f2 := h7.mem.fr l hl (j * 4 + 2)
                have f3 := h7.mem.fr l hl (j * 4 + 3)
                go_wp2_with fail
                clear z0 z1 z2 z3 f0 f1 f2 f3
                go_roundg (gk - 1)
                case measure => omega
                case rel =>
                  have h9 := hjc.out
                  exact ⟨j + 1, by omega, by go_num, TurnS.mix (h7.setT hl hj hN) (fun l' c' _ _ => mixT_set (fun l' c' => by show (l' = l ∧ c' < j + 1 ∧ c' ≠ c) ↔ ((l' = l ∧ c' < j ∧ c' ≠ c) ∨ (l' = l ∧ c' = j)); omega) l' c')⟩
      · have hj : j < S.m := by omega
        have htl : t.told j < S.n + S.m := hi.at'.toldLt j hj
        have kt : wr.cell? ⟨L.gt, j, none⟩ = some (.int .i64 (t.told j : Int)) := h4.tab.told j hj
        have k5 := h4.tab.c5
        have kr := h4.tab.rows j hj
        rw [a5.out] at k5
        rw [ar.out j hj] at kr
        obtain ⟨xn, xa, xl, xk, xm, xb, xi, xj, x0, x1, x2, x3, hx⟩ : FAt wr (L.row j) (c * 4) (t.T j c) := h4.tab.T j c hj hc
        have zx : Qz (t.T j c) := (HZT.out j c hj hc).z (by decide)
        obtain ⟨W2, hW2⟩ : ∃ W2, wr.alloc (.cells #[.bool xn, .slice xa xl xk, .bool xm, .slice xb xi xj] 39) = W2 := ⟨_, rfl⟩
        have bx : Blk W2 wr.heap.size 39 #[.bool xn, .slice xa xl xk, .bool xm, .slice xb xi xj] := by rw [← hW2]; exact Blk.new wr _ _
        have sb2 : Below wr.heap.size wr W2 := by rw [← hW2]; exact (Below.refl wr.heap.size wr).alloc (Nat.le_refl _) _
        replace HW2 := hide hW2
        clear hW2
        have hx2 := hx.below sb2 (Nat.le_refl _)
        have h5 := h4.below sb2
        have ej : (j : Int) < (S.m : Int) := by omega
        have e9 : (t.told j : Int) < (S.n : Int) + (S.m : Int) := by omega
        obtain ⟨C, hC⟩ : ∃ C, ordQ (t.T j c) 0 = C := ⟨_, rfl⟩
        have HC := hide hC
        clear hC hx
        go_upto_region 7 with (fail)
        rw [HW2.out]
        clear HW2 x0 x1 x2 x3 k5 kr kt
        obtain ⟨b0, b1, b2, b3, -⟩ := bx.c4
        go_wp2_with fail
        refine (sign_at hx2 zx HC.out).mono ?_
        rintro e w5 ⟨rfl, hb5⟩
        have h6 := h5.below hb5
        by_cases hT0 : t.T j c = 0
        · obtain rfl : C = 0 := HC.out.symm.trans (ordQ_00 hT0)
          have HE : Hid (stepV t c st (j + 1) = stepV t c st j) := hide (stepV_zero hT0)
          clear hT0
          go_wp2_with fail
          go_roundg (gk - 1)
          case measure => omega
          case rel => exact ⟨j + 1, by omega, by go_num, by rw [HE.out]; exact h6⟩
        · have e1 : ¬C = 0 := by rw [← HC.out]; exact ordQ_ne hT0
          have e2 : (C != 0) = true := by simp [e1]
          have e3 : (C == 0) = false := by simp [e1]
          have hx5 := hx2.below hb5 (Nat.le_refl _)
          have c0 := cellB b0 hb5 (Nat.le_refl _)
          have c1 := cellB b1 hb5 (Nat.le_refl _)
          have c2 := cellB b2 hb5 (Nat.le_refl _)
          have c3 := cellB b3 hb5 (Nat.le_refl _)
          have k2 := h6.tab.c2
          rw [a2.out] at k2
          obtain ⟨vn, va, vl, vk, vm, vb, vi, vj, v0, v1, v2, v3, hv⟩ : FAt w5 L.gv (t.told j * 4) (stepV t c st j (t.told j)) := h6.tab.val (t.told j) htl
          have zv : Qz (stepV t c st j (t.told j)) := by
            rw [stepV_else t c st _ j (fun l' h' he => by have := hi.at'.toldInj l' j (by omega) hj he; omega)]
            exact (HZV.out _ htl).z (by decide)
          have zxs : Qz (t.T j c * st) := (Qn.mul (HZT.out j c hj hc) zs).z (by decide)
          obtain ⟨qn, qa, ql, qk, qm, qb, qi, qj, q0, q1, q2, q3, hq⟩ := (h6.box gs st hps).2.box
          clear hT0 b0 b1 b2 b3 bx hx2 h4 h5
          go_upto_region 8 with (fail)
          refine wp_region_till (S := fun w' => w'.cell? ⟨L.p, 2, none⟩ = some (.slice (some ⟨L.gv, 0, none⟩) (S.n + S.m) L.kv) ∧ w'.cell? ⟨L.gv, t.told j * 4, none⟩ = some (.bool vn) ∧ w'.cell? ⟨L.gv, t.told j * 4 + 1, none⟩ = some (.slice va vl vk) ∧ w'.cell? ⟨L.gv, t.told j * 4 + 2, none⟩ = some (.bool vm) ∧ w'.cell? ⟨L.gv, t.told j * 4 + 3, none⟩ = some (.slice vb vi vj) ∧ w'.cell? ⟨wr.heap.size, 0, none⟩ = some (.bool xn) ∧ w'.cell? ⟨wr.heap.size, 1, none⟩ = some (.slice xa xl xk) ∧ w'.cell? ⟨wr.heap.size, 2, none⟩ = some (.bool xm) ∧ w'.cell? ⟨wr.heap.size, 3, none⟩ = some (.slice xb xi xj) ∧ w'.cell? ⟨gs, 0, none⟩ = some (.bool qn) ∧ w'.cell? ⟨gs, 1, none⟩ = some (.slice qa ql qk) ∧ w'.cell? ⟨gs, 2, none⟩ = some (.bool qm) ∧ w'.cell? ⟨gs, 3, none⟩ = some (.slice qb qi qj) ∧ Below w5.heap.size w5 w') (fun i => decide (i < 16)) (by kernel_rfl) (⟨k2, v0, v1, v2, v3, c0, c1, c2, c3, q0, q1, q2, q3, (Below.refl _ _).drew⟩) (fun hS => ?_)
          refine Till_take (i := 0) (oi := ⟨some 90, Op.move (Operand.tmp 0), 53, "simplex.go:146", #[], none⟩) (v := ?_) rfl (by kernel_rfl) (by kernel_rfl) (by kernel_rfl) (fun _ _ _ h => h) rfl (by kernel_rfl) (Or.inl ⟨by rfl, ?_⟩) hS ?_
          rotate_left
          · (intro w' hSw; (try dsimp only at hSw); go_simp; try with_reducible rfl)
          try simp only [Act.put, sB, sC, sD]
          refine Till_take (i := 1) (oi := ⟨some 91, Op.nilCheck (Operand.tmp 90), 0, "simplex.go:146", #[eD 0], none⟩) (v := ?_) rfl (by kernel_rfl) (by kernel_rfl) (by kernel_rfl) (fun _ _ _ h => h) rfl (by kernel_rfl) (Or.inl ⟨by rfl, ?_⟩) hS ?_
          rotate_left
          · (intro w' hSw; (try dsimp only at hSw); go_simp; try with_reducible rfl)
          try simp only [Act.put, sB, sC, sD]
          refine Till_take (i := 2) (oi := ⟨some 92, Op.fieldAddr 61 (Operand.tmp 91) 2, 0, "simplex.go:146", #[eD 1], none⟩) (v := ?_) rfl (by kernel_rfl) (by kernel_rfl) (by kernel_rfl) (fun _ _ _ h => h) rfl (by kernel_rfl) (Or.inl ⟨by rfl, ?_⟩) hS ?_
          rotate_left
          · (intro w' hSw; (try dsimp only at hSw); go_simp; try with_reducible rfl)
          try simp only [Act.put, sB, sC, sD]
          refine Till_take (i := 3) (oi := ⟨some 93, Op.load 25 (Operand.tmp 92), 25, "simplex.go:146", #[eD 2], none⟩) (v := ?_) rfl (by kernel_rfl) (by kernel_rfl) (by kernel_rfl) (fun _ _ _ h => h) rfl (by kernel_rfl) (Or.inl ⟨by rfl, ?_⟩) hS ?_
          rotate_left
          · (intro w' hSw; (try dsimp only at hSw); go_simp; try with_reducible rfl)
          try simp only [Act.put, sB, sC, sD]
          refine Till_take (i := 4) (oi := ⟨some 94, Op.move (Operand.tmp 11), 3, "simplex.go:146", #[], none⟩) (v := ?_) rfl (by kernel_rfl) (by kernel_rfl) (by kernel_rfl) (fun _ _ _ h => h) rfl (by kernel_rfl) (Or.inl ⟨by rfl, ?_⟩) hS ?_
          rotate_left
          · (intro w' hSw; (try dsimp only at hSw); go_simp; try with_reducible rfl)
          try simp only [Act.put, sB, sC, sD]
          refine Till_take (i := 5) (oi := ⟨some 95, Op.move (Operand.tmp 0), 53, "simplex.go:146", #[], none⟩) (v := ?_) rfl (by kernel_rfl) (by kernel_rfl) (by kernel_rfl) (fun _ _ _ h => h) rfl (by kernel_rfl) (Or.inl ⟨by rfl, ?_⟩) hS ?_
          rotate_left
          · (intro w' hSw; (try dsimp only at hSw); go_simp; try with_reducible rfl)
          try simp only [Act.put, sB, sC, sD]
          refine Till_take (i := 6) (oi := ⟨some 96, Op.nilCheck (Operand.tmp 95), 0, "simplex.go:146", #[eD 5], none⟩) (v := ?_) rfl (by kernel_rfl) (by kernel_rfl) (by kernel_rfl) (fun _ _ _ h => h) rfl (by kernel_rfl) (Or.inl ⟨by rfl, ?_⟩) hS ?_
          rotate_left
          · (intro w' hSw; (try dsimp only at hSw); go_simp; try with_reducible rfl)
          try simp only [Act.put, sB, sC, sD]
          refine Till_take (i := 7) (oi := ⟨some 97, Op.fieldAddr 61 (Operand.tmp 96) 2, 0, "simplex.go:146", #[eD 6], none⟩) (v := ?_) rfl (by kernel_rfl) (by kernel_rfl) (by kernel_rfl) (fun _ _ _ h => h) rfl (by kernel_rfl) (Or.inl ⟨by rfl, ?_⟩) hS ?_
          rotate_left
          · (intro w' hSw; (try dsimp only at hSw); go_simp; try with_reducible rfl)
          try simp only [Act.put, sB, sC, sD]
          refine Till_take (i := 8) (oi := ⟨some 98, Op.load 25 (Operand.tmp 97), 25, "simplex.go:146", #[eD 7], none⟩) (v := ?_) rfl (by kernel_rfl) (by kernel_rfl) (by kernel_rfl) (fun _ _ _ h => h) rfl (by kernel_rfl) (Or.inl ⟨by rfl, ?_⟩) hS ?_
          rotate_left
          · (intro w' hSw; (try dsimp only at hSw); go_simp; try with_reducible rfl)
          try simp only [Act.put, sB, sC, sD]
          refine Till_take (i := 9) (oi := ⟨some 99, Op.move (Operand.tmp 11), 3, "simplex.go:146", #[], none⟩) (v := ?_) rfl (by kernel_rfl) (by kernel_rfl) (by kernel_rfl) (fun _ _ _ h => h) rfl (by kernel_rfl) (Or.inl ⟨by rfl, ?_⟩) hS ?_
          rotate_left
          · (intro w' hSw; (try dsimp only at hSw); go_simp; try with_reducible rfl)
          try simp only [Act.put, sB, sC, sD]
          refine Till_take (i := 10) (oi := ⟨some 100, Op.indexAddr 25 (Operand.tmp 98) (Operand.tmp 99), 0, "simplex.go:146", #[eD 8, eD 9], none⟩) (v := ?_) rfl (by kernel_rfl) (by kernel_rfl) (by kernel_rfl) (fun _ _ _ h => h) rfl (by kernel_rfl) (Or.inl ⟨by rfl, ?_⟩) hS ?_
          rotate_left
          · (intro w' hSw; (try dsimp only at hSw); go_simp; try with_reducible rfl)
          try simp only [Act.put, sB, sC, sD]
          refine Till_take (i := 11) (oi := ⟨some 101, Op.load 39 (Operand.tmp 100), 39, "simplex.go:146", #[eD 10], none⟩) (v := ?_) rfl (by kernel_rfl) (by kernel_rfl) (by kernel_rfl) (fun _ _ _ h => h) rfl (by kernel_rfl) (Or.inl ⟨by rfl, ?_⟩) hS ?_
          rotate_left
          · (intro w' hSw; (try dsimp only at hSw); go_simp; try with_reducible rfl)
          try simp only [Act.put, sB, sC, sD]
          refine Till_take (i := 12) (oi := ⟨some 102, Op.load 39 (Operand.tmp 12), 39, "simplex.go:146", #[], none⟩) (v := ?_) rfl (by kernel_rfl) (by kernel_rfl) (by kernel_rfl) (fun _ _ _ h => h) rfl (by kernel_rfl) (Or.inl ⟨by rfl, ?_⟩) hS ?_
          rotate_left
          · (intro w' hSw; (try dsimp only at hSw); go_simp; try with_reducible rfl)
          try simp only [Act.put, sB, sC, sD]
          refine Till_take (i := 13) (oi := ⟨some 103, Op.load 39 (Operand.tmp 9), 39, "simplex.go:146", #[], none⟩) (v := ?_) rfl (by kernel_rfl) (by kernel_rfl) (by kernel_rfl) (fun _ _ _ h => h) rfl (by kernel_rfl) (Or.inl ⟨by rfl, ?_⟩) hS ?_
          rotate_left
          · (intro w' hSw; (try dsimp only at hSw); go_simp; try with_reducible rfl)
          try simp only [Act.put, sB, sC, sD]
          refine Till_ready (rs := [14]) (by kernel_rfl) (by kernel_rfl) (by simp) ?_
          refine AllReadyT.cons (o := ⟨some 104, Op.call { callee := Callee.value (Operand.func 15), args := #[Operand.tmp 102, Operand.tmp 103], argTypes := #[39, 39] }, 39, "simplex.go:146", #[eD 12, eD 13], none⟩) rfl (fun K hK => ?_) AllReadyT.nil
          go_simp
          (go_at_call 15; (with_reducible refine (FMul_any _ (hx5.below (hS.2.2.2.2.2.2.2.2.2.2.2.2.2) (Nat.le_refl _)) (hq.below (hS.2.2.2.2.2.2.2.2.2.2.2.2.2) (Nat.le_refl _)) zx zst).mono ?_); rintro e wA ⟨rA, rfl, hA, hb1⟩)
          go_wp2_with fail
          refine hK.out _ _ (keepZ13 hS hb1) (fun hS => ?_)
          clear hK K hb1
          try simp only [Act.put, sB, sC, sD]
          refine Till_ready (rs := [15]) (by kernel_rfl) (by kernel_rfl) (by simp) ?_
          refine AllReadyT.cons (o := ⟨some 105, Op.call { callee := Callee.value (Operand.func 14), args := #[Operand.tmp 101, Operand.tmp 104], argTypes := #[39, 39] }, 39, "simplex.go:146", #[eD 11, eD 14, eC 14], none⟩) rfl (fun K hK => ?_) AllReadyT.nil
          go_simp
          (go_at_call 14; (with_reducible refine (FAdd_any _ (hv.below (hS.2.2.2.2.2.2.2.2.2.2.2.2.2) (Nat.le_refl _)) hA zv zxs).mono ?_); rintro e wN ⟨rN, rfl, hN, hb1⟩)
          obtain ⟨un, ua, ul, uk, um, ub, ui, uj, rfl, -, -⟩ := FracV.parts hN
          go_wp2_with fail
          refine hK.out _ _ (keepZ13 hS hb1) (fun hS => ?_)
          clear hK K hb1
          try simp only [Act.put, sB, sC, sD]
          refine Till_turn (by kernel_rfl) ?_
          refine wpAnyH_take (i := 16) (oi := ⟨some 106, Op.indexAddr 25 (Operand.tmp 93) (Operand.tmp 94), 0, "simplex.go:146", #[eD 3, eD 4, eP 0, eP 1, eP 2, eP 3, eP 4, eP 5, eP 6, eP 7, eP 8, eP 9, eP 10, eP 11, eP 12, eP 13, eP 14, eP 15], none⟩) (v := ?_) rfl (by kernel_rfl) (by kernel_rfl) (by kernel_rfl) (fun _ _ _ h => h) (Or.inl ⟨by rfl, ?_⟩) trivial ?_
          rotate_left
          · (intro w' hSw; (try dsimp only at hSw); go_simp; try with_reducible rfl)
          try simp only [Act.put, sB, sC, sD]
          refine wpAnyH_ready (rs := [17]) (by kernel_rfl) (by simp) ?_
          refine AllReadyH.cons (o := ⟨none, Op.store 39 (Operand.tmp 106) (Operand.tmp 105), 0, "simplex.go:146", #[eD 16, eD 15, eC 15, eP 0, eP 1, eP 2, eP 3, eP 4, eP 5, eP 6, eP 7, eP 8, eP 9, eP 10, eP 11, eP 12, eP 13, eP 14, eP 15], none⟩) rfl (fun K hK => ?_) AllReadyH.nil
          have h7 := h6.below (hS.2.2.2.2.2.2.2.2.2.2.2.2.2)
          obtain ⟨_, _, _, _, _, _, _, _, z0, z1, z2, z3, -⟩ := h7.tab.val (t.told j) htl
          have f0 := h7.mem.fv (t.told j * 4)
          have f1 := h7.mem.fv (t.told j * 4 + 1)
          have f2 := h7.mem.fv (t.told j * 4 + 2)
          have f3 := h7.mem.fv (t.told j * 4 + 3)
          obtain ⟨W3, hW3⟩ : ∃ W3, put4 wN L.gv (t.told j * 4) (.bool un) (.slice ua ul uk) (.bool um) (.slice ub ui uj) = W3 := ⟨_, rfl⟩
          have h8 : TurnS w.heap.size B w S L P { t with val := stepV t c st (j + 1) } W3 := by rw [← hW3]; exact h7.setVal htl hN
          simp only [put4] at hW3
          have HW3 := hide hW3
          clear hW3
          go_simp
          refine hK.out _ _ trivial (fun _ => ?_)
          clear hK K z0 z1 z2 z3 f0 f1 f2 f3
          try simp only [Act.put, sB, sC, sD]
          refine wpAnyH_done (by kernel_rfl) ?_ _
          rw [HW3.out]
          clear HW3 hS c0 c1 c2 c3 k2 v0 v1 v2 v3 q0 q1 q2 q3 e1 e2 e3 hv hq hx5
          go_wp2_with fail
          go_roundg (gk - 1)
          case measure => omega
          case rel => exact ⟨j + 1, by omega, by go_num, h8⟩
end Go.Proofs.YtphjffbldhhdiaaGreatDoor
