/- collatorref02's Mul, Div, Add, Neg, Cmp, Floor, Same: by their contracts. -/
import Derived.Test.YthpibilefdmemaaDoorRf2
namespace Go.Proofs.YthpibilefdmemaaDoor
open Go.RowKit

/-- How great a fraction's integers may be, where the document reckons with them. -/
def Qr (q : Rat) : Prop := Qn 100000000 q
theorem Qn.r {m : Nat} {q : Rat} (h : Qn m q) (hk : m ≤ 100000000) : Qr q := Qn.mono h hk
theorem Qr.dm {p q : Rat} (hp : Qr p) (hq : Qr q) : Dm p.num ∧ Dm (p.den : Int) ∧ Dm (p.num * q.num) ∧ Dm ((p.den : Int) * (q.den : Int)) ∧ Dm (p.num * (q.den : Int)) ∧ Dm ((p.den : Int) * q.num) ∧ Dm (q.num * (p.den : Int)) ∧ Dm (p.num * (q.den : Int) + q.num * (p.den : Int)) := by
  obtain ⟨a1, a2⟩ := hp
  obtain ⟨b1, b2⟩ := hq
  have m1 := len_mul p.num q.num
  have m2 := len_mul (p.den : Int) (q.den : Int)
  have m3 := len_mul p.num (q.den : Int)
  have m4 := len_mul (p.den : Int) q.num
  have m5 := len_mul q.num (p.den : Int)
  have m6 := len_add (p.num * (q.den : Int)) (q.num * (p.den : Int))
  refine ⟨?_, ?_, ?_, ?_, ?_, ?_, ?_, ?_⟩ <;> exact dm_len (by omega)
theorem RFracV.parts {w : World} {v : Value} {q : Rat} (h : RFracV w v q) : ∃ (n1 : Bool) (a1 : Option Addr) (l1 k1 : Nat) (n2 : Bool) (a2 : Option Addr) (l2 k2 : Nat), v = .agg #[.bool n1, .slice a1 l1 k1, .bool n2, .slice a2 l2 k2] ∧ NumV w (.agg #[.bool n1, .slice a1 l1 k1]) q.num ∧ NumV w (.agg #[.bool n2, .slice a2 l2 k2]) (q.den : Int) := h
theorem sub_neg_iff (p q : Rat) : (p - q).num < 0 ↔ p < q := by
    have h4 : 0 ≤ (p - q).num ↔ 0 ≤ p - q := Rat.num_nonneg
    constructor
    · intro h
      have h5 : ¬ 0 ≤ p - q := fun e => by have := h4.2 e; omega
      grind
    · intro h
      have h5 : ¬ 0 ≤ (p - q).num := fun e => by have := h4.1 e; grind
      omega
theorem sub_pos_iff (p q : Rat) : 0 < (p - q).num ↔ q < p := by
    have h3 : (p - q).num = 0 ↔ p - q = 0 := Rat.num_eq_zero
    have h4 : 0 ≤ (p - q).num ↔ 0 ≤ p - q := Rat.num_nonneg
    constructor
    · intro h
      have h5 := h4.1 (by omega)
      have h6 : p - q ≠ 0 := fun e => by have := h3.2 e; omega
      grind
    · intro h
      have h5 := h4.2 (by grind)
      have h6 : (p - q).num ≠ 0 := fun e => by have := h3.1 e; grind
      omega
theorem ordQ_sub (p q : Rat) : ordZ (p + -q).num 0 = ordQ p q := by
  rw [ordQ_eq, ← Rat.sub_eq_add_neg]
  have h1 := sub_neg_iff p q
  have h2 := sub_pos_iff p q
  unfold ordZ
  simp only [h1, h2]

theorem RFracV.drewd {w : World} {v : Value} {q : Rat} (h : RFracV w v q) : RFracV w.drew v q := h
theorem RFracV.allocd {w : World} {v : Value} {q : Rat} (h : RFracV w v q) (o : Obj) : RFracV (w.alloc o) v q := h.below ((Below.refl _ _).alloc (Nat.le_refl _) _) (Nat.le_refl _)

set_option maxRecDepth 100000 in
set_option maxHeartbeats 6400000 in
theorem RMul2_any {p q : Rat} {u v : Value} (w : World) (hx : RFracV w u p) (hy : RFracV w v q) (hp : Qr p) (hq : Qr q) : Calls Tryd.prog 55 #[u, v] w (RFracPost w (p * q)) := by
  generalize hP : RFracPost w (p * q) = Post
  have HP := hide hP
  clear hP
  obtain ⟨xn, xa, xl, xk, xm, xb, xi, xj, rfl, hx1, hx2⟩ := RFracV.parts hx
  obtain ⟨yn, ya, yl, yk, ym, yb, yi, yj, rfl, hy1, hy2⟩ := RFracV.parts hy
  obtain ⟨sx, sd, sxx, sdd, sxd, sdx, syd, sad⟩ := Qr.dm hp hq
  obtain ⟨tx, td, -, -, -, -, -, -⟩ := Qr.dm hq hp
  obtain ⟨W, hW⟩ : ∃ W, (((w.alloc (.cells #[.bool xn, .slice xa xl xk, .bool xm, .slice xb xi xj] 64)).alloc (.cells #[.bool yn, .slice ya yl yk, .bool ym, .slice yb yi yj] 64)).alloc (.cells #[.bool false, .slice none 0 0, .bool false, .slice none 0 0] 64)) = W := ⟨_, rfl⟩
  have bx : Blk W w.heap.size 64 #[.bool xn, .slice xa xl xk, .bool xm, .slice xb xi xj] := by rw [← hW]; exact ((Blk.new w _ _).alloc _).alloc _
  have by_ : Blk W (w.heap.size + 1) 64 #[.bool yn, .slice ya yl yk, .bool ym, .slice yb yi yj] := by rw [← hW]; exact (Blk.new_at _ _ _ (by simp)).alloc _
  have bR : Blk W (w.heap.size + 1 + 1) 64 #[.bool false, .slice none 0 0, .bool false, .slice none 0 0] := by rw [← hW]; exact Blk.new_at _ _ _ (by simp)
  have sb : Below w.heap.size w W := by rw [← hW]; exact (((Below.refl w.heap.size w).alloc (Nat.le_refl _) _).alloc (by simp) _).alloc (by simp; omega) _
  obtain ⟨cx0, cx1, cx2, cx3, -⟩ := bx.c4
  obtain ⟨cy0, cy1, cy2, cy3, -⟩ := by_.c4
  have hK : Kq w 64 (w.heap.size + 1 + 1) W := ⟨sb, by omega, _, _, _, _, _, _, _, _, bR⟩
  have HW := hide hW
  clear hW bx by_ bR
  go_enter Tryd.func55, Tryd.ntmps55
  go_upto_region 1 with (fail)
  rw [HW.out]
  clear HW
  have hK1 := hK.drew
  have dx : w.heap.size ≠ w.heap.size + 1 + 1 := by omega
  have dy : w.heap.size + 1 ≠ w.heap.size + 1 + 1 := by omega
  go_region_held3 (fun w' => w'.cell? ⟨w.heap.size, 0, none⟩ = some (.bool xn) ∧ w'.cell? ⟨w.heap.size, 1, none⟩ = some (.slice xa xl xk) ∧ w'.cell? ⟨w.heap.size, 2, none⟩ = some (.bool xm) ∧ w'.cell? ⟨w.heap.size, 3, none⟩ = some (.slice xb xi xj) ∧ w'.cell? ⟨w.heap.size + 1, 0, none⟩ = some (.bool yn) ∧ w'.cell? ⟨w.heap.size + 1, 1, none⟩ = some (.slice ya yl yk) ∧ w'.cell? ⟨w.heap.size + 1, 2, none⟩ = some (.bool ym) ∧ w'.cell? ⟨w.heap.size + 1, 3, none⟩ = some (.slice yb yi yj) ∧ Kq w 64 (w.heap.size + 1 + 1) w')
    (first | with_reducible exact keepL8 (by assumption) hb1 | with_reducible exact keepQ8 dx dx dx dx dy dy dy dy _ _ _ _ (isB_of _) (isS_of _ _ _) (isB_of _) (isS_of _ _ _) (by assumption) | go_keep)
    (first
      | (go_at_call_of 28 (Value.agg #[.bool yn, .slice ya yl yk]); (with_reducible refine (RMul_any _ (hx1.below (by go_split_ands; exact Kq.bel (by assumption)) (Nat.le_refl _)) (hy1.below (by go_split_ands; exact Kq.bel (by assumption)) (Nat.le_refl _)) sx tx).mono ?_); rintro e wN ⟨rA, rfl, hA, hb1⟩)
      | (go_at_call_of 28 (Value.agg #[.bool ym, .slice yb yi yj]); (with_reducible refine (RMul_any _ (hx2.below (by go_split_ands; exact Kq.bel (by assumption)) (Nat.le_refl _)) (hy2.below (by go_split_ands; exact Kq.bel (by assumption)) (Nat.le_refl _)) sd td).mono ?_); rintro e wN ⟨rD, rfl, hD, hb1⟩; replace hA := hA.below hb1 (Nat.le_refl _))
      | (go_at_call_of 43 rD; (with_reducible refine (RMake2_any _ hA hD sxx sdd).mono ?_); rintro e wN ⟨rE, rfl, hE, hb1⟩; rw [mul_div] at hE; obtain ⟨rn, ra, rl, rk, rm, rb, ri, rj, rfl, -, -⟩ := RFracV.parts hE; obtain ⟨_, _, _, _, _, _, _, _, k0, k1, k2, k3, kf0, kf1, kf2, kf3, hX4⟩ := Kq.at (t := 64) (g := w.heap.size + 1 + 1) (w := w) (by go_split_ands; assumption) hb1))
  rename_i hS
  have hKf := hS.2.2.2.2.2.2.2.2
  have hI := RFrV.st4 hE hX4 (.bool rn) (.slice ra rl rk) (.bool rm) (.slice rb ri rj)
  obtain ⟨e0, e1, e2, e3, -⟩ := (hX4.four (.bool rn) (.slice ra rl rk) (.bool rm) (.slice rb ri rj)).c4
  go_wp2_with fail
  refine bodyPost_ret (v := Value.agg #[.bool rn, .slice ra rl rk, .bool rm, .slice rb ri rj]) (by simp [results, Tryd.results55, go_sem, e0, e1, e2, e3]) rfl ?_
  rw [← HP.out]
  exact ⟨_, rfl, hI, hKf.1⟩

set_option maxRecDepth 100000 in
set_option maxHeartbeats 6400000 in
theorem RDiv2_any {p q : Rat} {u v : Value} (w : World) (hx : RFracV w u p) (hy : RFracV w v q) (hp : Qr p) (hq : Qr q) : Calls Tryd.prog 56 #[u, v] w (RFracPost w (p / q)) := by
  generalize hP : RFracPost w (p / q) = Post
  have HP := hide hP
  clear hP
  obtain ⟨xn, xa, xl, xk, xm, xb, xi, xj, rfl, hx1, hx2⟩ := RFracV.parts hx
  obtain ⟨yn, ya, yl, yk, ym, yb, yi, yj, rfl, hy1, hy2⟩ := RFracV.parts hy
  obtain ⟨sx, sd, sxx, sdd, sxd, sdx, syd, sad⟩ := Qr.dm hp hq
  obtain ⟨tx, td, -, -, -, -, -, -⟩ := Qr.dm hq hp
  obtain ⟨W, hW⟩ : ∃ W, (((w.alloc (.cells #[.bool xn, .slice xa xl xk, .bool xm, .slice xb xi xj] 64)).alloc (.cells #[.bool yn, .slice ya yl yk, .bool ym, .slice yb yi yj] 64)).alloc (.cells #[.bool false, .slice none 0 0, .bool false, .slice none 0 0] 64)) = W := ⟨_, rfl⟩
  have bx : Blk W w.heap.size 64 #[.bool xn, .slice xa xl xk, .bool xm, .slice xb xi xj] := by rw [← hW]; exact ((Blk.new w _ _).alloc _).alloc _
  have by_ : Blk W (w.heap.size + 1) 64 #[.bool yn, .slice ya yl yk, .bool ym, .slice yb yi yj] := by rw [← hW]; exact (Blk.new_at _ _ _ (by simp)).alloc _
  have bR : Blk W (w.heap.size + 1 + 1) 64 #[.bool false, .slice none 0 0, .bool false, .slice none 0 0] := by rw [← hW]; exact Blk.new_at _ _ _ (by simp)
  have sb : Below w.heap.size w W := by rw [← hW]; exact (((Below.refl w.heap.size w).alloc (Nat.le_refl _) _).alloc (by simp) _).alloc (by simp; omega) _
  obtain ⟨cx0, cx1, cx2, cx3, -⟩ := bx.c4
  obtain ⟨cy0, cy1, cy2, cy3, -⟩ := by_.c4
  have hK : Kq w 64 (w.heap.size + 1 + 1) W := ⟨sb, by omega, _, _, _, _, _, _, _, _, bR⟩
  have HW := hide hW
  clear hW bx by_ bR
  go_enter Tryd.func56, Tryd.ntmps56
  go_upto_region 1 with (fail)
  rw [HW.out]
  clear HW
  have hK1 := hK.drew
  have dx : w.heap.size ≠ w.heap.size + 1 + 1 := by omega
  have dy : w.heap.size + 1 ≠ w.heap.size + 1 + 1 := by omega
  go_region_held3 (fun w' => w'.cell? ⟨w.heap.size, 0, none⟩ = some (.bool xn) ∧ w'.cell? ⟨w.heap.size, 1, none⟩ = some (.slice xa xl xk) ∧ w'.cell? ⟨w.heap.size, 2, none⟩ = some (.bool xm) ∧ w'.cell? ⟨w.heap.size, 3, none⟩ = some (.slice xb xi xj) ∧ w'.cell? ⟨w.heap.size + 1, 0, none⟩ = some (.bool yn) ∧ w'.cell? ⟨w.heap.size + 1, 1, none⟩ = some (.slice ya yl yk) ∧ w'.cell? ⟨w.heap.size + 1, 2, none⟩ = some (.bool ym) ∧ w'.cell? ⟨w.heap.size + 1, 3, none⟩ = some (.slice yb yi yj) ∧ Kq w 64 (w.heap.size + 1 + 1) w')
    (first | with_reducible exact keepL8 (by assumption) hb1 | with_reducible exact keepQ8 dx dx dx dx dy dy dy dy _ _ _ _ (isB_of _) (isS_of _ _ _) (isB_of _) (isS_of _ _ _) (by assumption) | go_keep)
    (first
      | (go_at_call_of 28 (Value.agg #[.bool ym, .slice yb yi yj]); (with_reducible refine (RMul_any _ (hx1.below (by go_split_ands; exact Kq.bel (by assumption)) (Nat.le_refl _)) (hy2.below (by go_split_ands; exact Kq.bel (by assumption)) (Nat.le_refl _)) sx td).mono ?_); rintro e wN ⟨rA, rfl, hA, hb1⟩)
      | (go_at_call_of 28 (Value.agg #[.bool yn, .slice ya yl yk]); (with_reducible refine (RMul_any _ (hx2.below (by go_split_ands; exact Kq.bel (by assumption)) (Nat.le_refl _)) (hy1.below (by go_split_ands; exact Kq.bel (by assumption)) (Nat.le_refl _)) sd tx).mono ?_); rintro e wN ⟨rD, rfl, hD, hb1⟩; replace hA := hA.below hb1 (Nat.le_refl _))
      | (go_at_call_of 43 rD; (with_reducible refine (RMake2_any _ hA hD sxd sdx).mono ?_); rintro e wN ⟨rE, rfl, hE, hb1⟩; rw [div_div] at hE; obtain ⟨rn, ra, rl, rk, rm, rb, ri, rj, rfl, -, -⟩ := RFracV.parts hE; obtain ⟨_, _, _, _, _, _, _, _, k0, k1, k2, k3, kf0, kf1, kf2, kf3, hX4⟩ := Kq.at (t := 64) (g := w.heap.size + 1 + 1) (w := w) (by go_split_ands; assumption) hb1))
  rename_i hS
  have hKf := hS.2.2.2.2.2.2.2.2
  have hI := RFrV.st4 hE hX4 (.bool rn) (.slice ra rl rk) (.bool rm) (.slice rb ri rj)
  obtain ⟨e0, e1, e2, e3, -⟩ := (hX4.four (.bool rn) (.slice ra rl rk) (.bool rm) (.slice rb ri rj)).c4
  go_wp2_with fail
  refine bodyPost_ret (v := Value.agg #[.bool rn, .slice ra rl rk, .bool rm, .slice rb ri rj]) (by simp [results, Tryd.results56, go_sem, e0, e1, e2, e3]) rfl ?_
  rw [← HP.out]
  exact ⟨_, rfl, hI, hKf.1⟩

set_option maxRecDepth 100000 in
set_option maxHeartbeats 6400000 in
theorem RAdd2_any {p q : Rat} {u v : Value} (w : World) (hx : RFracV w u p) (hy : RFracV w v q) (hp : Qr p) (hq : Qr q) : Calls Tryd.prog 54 #[u, v] w (RFracPost w (p + q)) := by
  generalize hP : RFracPost w (p + q) = Post
  have HP := hide hP
  clear hP
  obtain ⟨xn, xa, xl, xk, xm, xb, xi, xj, rfl, hx1, hx2⟩ := RFracV.parts hx
  obtain ⟨yn, ya, yl, yk, ym, yb, yi, yj, rfl, hy1, hy2⟩ := RFracV.parts hy
  obtain ⟨sx, sd, sxx, sdd, sxd, sdx, syd, sad⟩ := Qr.dm hp hq
  obtain ⟨tx, td, -, -, -, -, -, -⟩ := Qr.dm hq hp
  obtain ⟨W, hW⟩ : ∃ W, (((w.alloc (.cells #[.bool xn, .slice xa xl xk, .bool xm, .slice xb xi xj] 64)).alloc (.cells #[.bool yn, .slice ya yl yk, .bool ym, .slice yb yi yj] 64)).alloc (.cells #[.bool false, .slice none 0 0, .bool false, .slice none 0 0] 64)) = W := ⟨_, rfl⟩
  have bx : Blk W w.heap.size 64 #[.bool xn, .slice xa xl xk, .bool xm, .slice xb xi xj] := by rw [← hW]; exact ((Blk.new w _ _).alloc _).alloc _
  have by_ : Blk W (w.heap.size + 1) 64 #[.bool yn, .slice ya yl yk, .bool ym, .slice yb yi yj] := by rw [← hW]; exact (Blk.new_at _ _ _ (by simp)).alloc _
  have bR : Blk W (w.heap.size + 1 + 1) 64 #[.bool false, .slice none 0 0, .bool false, .slice none 0 0] := by rw [← hW]; exact Blk.new_at _ _ _ (by simp)
  have sb : Below w.heap.size w W := by rw [← hW]; exact (((Below.refl w.heap.size w).alloc (Nat.le_refl _) _).alloc (by simp) _).alloc (by simp; omega) _
  obtain ⟨cx0, cx1, cx2, cx3, -⟩ := bx.c4
  obtain ⟨cy0, cy1, cy2, cy3, -⟩ := by_.c4
  have hK : Kq w 64 (w.heap.size + 1 + 1) W := ⟨sb, by omega, _, _, _, _, _, _, _, _, bR⟩
  have HW := hide hW
  clear hW bx by_ bR
  go_enter Tryd.func54, Tryd.ntmps54
  go_upto_region 1 with (fail)
  rw [HW.out]
  clear HW
  have hK1 := hK.drew
  have dx : w.heap.size ≠ w.heap.size + 1 + 1 := by omega
  have dy : w.heap.size + 1 ≠ w.heap.size + 1 + 1 := by omega
  go_region_held3 (fun w' => w'.cell? ⟨w.heap.size, 0, none⟩ = some (.bool xn) ∧ w'.cell? ⟨w.heap.size, 1, none⟩ = some (.slice xa xl xk) ∧ w'.cell? ⟨w.heap.size, 2, none⟩ = some (.bool xm) ∧ w'.cell? ⟨w.heap.size, 3, none⟩ = some (.slice xb xi xj) ∧ w'.cell? ⟨w.heap.size + 1, 0, none⟩ = some (.bool yn) ∧ w'.cell? ⟨w.heap.size + 1, 1, none⟩ = some (.slice ya yl yk) ∧ w'.cell? ⟨w.heap.size + 1, 2, none⟩ = some (.bool ym) ∧ w'.cell? ⟨w.heap.size + 1, 3, none⟩ = some (.slice yb yi yj) ∧ Kq w 64 (w.heap.size + 1 + 1) w')
    (first | with_reducible exact keepL8 (by assumption) hb1 | with_reducible exact keepQ8 dx dx dx dx dy dy dy dy _ _ _ _ (isB_of _) (isS_of _ _ _) (isB_of _) (isS_of _ _ _) (by assumption) | go_keep)
    (first
      | (go_at_call_of 28 (Value.agg #[.bool xn, .slice xa xl xk]); (with_reducible refine (RMul_any _ (hx1.below (by go_split_ands; exact Kq.bel (by assumption)) (Nat.le_refl _)) (hy2.below (by go_split_ands; exact Kq.bel (by assumption)) (Nat.le_refl _)) sx td).mono ?_); rintro e wN ⟨rA, rfl, hA, hb1⟩)
      | (go_at_call_of 28 (Value.agg #[.bool yn, .slice ya yl yk]); (with_reducible refine (RMul_any _ (hy1.below (by go_split_ands; exact Kq.bel (by assumption)) (Nat.le_refl _)) (hx2.below (by go_split_ands; exact Kq.bel (by assumption)) (Nat.le_refl _)) tx sd).mono ?_); rintro e wN ⟨rB, rfl, hB, hb1⟩; replace hA := hA.below hb1 (Nat.le_refl _))
      | (go_at_call_of 26 rB; (with_reducible refine (RAdd_any _ hA hB sxd syd).mono ?_); rintro e wN ⟨rC, rfl, hC, hb1⟩)
      | (go_at_call_of 28 (Value.agg #[.bool xm, .slice xb xi xj]); (with_reducible refine (RMul_any _ (hx2.below (by go_split_ands; exact Kq.bel (by assumption)) (Nat.le_refl _)) (hy2.below (by go_split_ands; exact Kq.bel (by assumption)) (Nat.le_refl _)) sd td).mono ?_); rintro e wN ⟨rD, rfl, hD, hb1⟩; replace hC := hC.below hb1 (Nat.le_refl _))
      | (go_at_call_of 43 rD; (with_reducible refine (RMake2_any _ hC hD sad sdd).mono ?_); rintro e wN ⟨rE, rfl, hE, hb1⟩; rw [add_div] at hE; obtain ⟨rn, ra, rl, rk, rm, rb, ri, rj, rfl, -, -⟩ := RFracV.parts hE; obtain ⟨_, _, _, _, _, _, _, _, k0, k1, k2, k3, kf0, kf1, kf2, kf3, hX4⟩ := Kq.at (t := 64) (g := w.heap.size + 1 + 1) (w := w) (by go_split_ands; assumption) hb1))
  rename_i hS
  have hKf := hS.2.2.2.2.2.2.2.2
  have hI := RFrV.st4 hE hX4 (.bool rn) (.slice ra rl rk) (.bool rm) (.slice rb ri rj)
  obtain ⟨e0, e1, e2, e3, -⟩ := (hX4.four (.bool rn) (.slice ra rl rk) (.bool rm) (.slice rb ri rj)).c4
  go_wp2_with fail
  refine bodyPost_ret (v := Value.agg #[.bool rn, .slice ra rl rk, .bool rm, .slice rb ri rj]) (by simp [results, Tryd.results54, go_sem, e0, e1, e2, e3]) rfl ?_
  rw [← HP.out]
  exact ⟨_, rfl, hI, hKf.1⟩

set_option maxRecDepth 100000 in
set_option maxHeartbeats 6400000 in
theorem RNeg2_any {p : Rat} {u : Value} (w : World) (hx : RFracV w u p) (hp : Qr p) : Calls Tryd.prog 57 #[u] w (RFracPost w (-p)) := by
  generalize hP : RFracPost w (-p) = Post
  have HP := hide hP
  clear hP
  obtain ⟨sx, sd, -, -, -, -, -, -⟩ := Qr.dm hp hp
  obtain ⟨xn, xa, xl, xk, xm, xb, xi, xj, rfl, hx1, hx2⟩ := RFracV.parts hx
  obtain ⟨W, hW⟩ : ∃ W, ((w.alloc (.cells #[.bool xn, .slice xa xl xk, .bool xm, .slice xb xi xj] 64)).alloc (.cells #[.bool false, .slice none 0 0, .bool false, .slice none 0 0] 64)) = W := ⟨_, rfl⟩
  have bx : Blk W w.heap.size 64 #[.bool xn, .slice xa xl xk, .bool xm, .slice xb xi xj] := by rw [← hW]; exact (Blk.new w _ _).alloc _
  have bR : Blk W (w.heap.size + 1) 64 #[.bool false, .slice none 0 0, .bool false, .slice none 0 0] := by rw [← hW]; exact Blk.new_at _ _ _ (by simp)
  have sb : Below w.heap.size w W := by rw [← hW]; exact ((Below.refl w.heap.size w).alloc (Nat.le_refl _) _).alloc (by simp) _
  obtain ⟨cx0, cx1, cx2, cx3, -⟩ := bx.c4
  have hK : Kq w 64 (w.heap.size + 1) W := ⟨sb, by omega, _, _, _, _, _, _, _, _, bR⟩
  have HW := hide hW
  clear hW bx bR
  go_enter Tryd.func57, Tryd.ntmps57
  go_upto_region 1 with (fail)
  rw [HW.out]
  clear HW
  have hK1 := hK.drew
  have dx : w.heap.size ≠ w.heap.size + 1 := by omega
  go_region_held3 (fun w' => w'.cell? ⟨w.heap.size, 0, none⟩ = some (.bool xn) ∧ w'.cell? ⟨w.heap.size, 1, none⟩ = some (.slice xa xl xk) ∧ w'.cell? ⟨w.heap.size, 2, none⟩ = some (.bool xm) ∧ w'.cell? ⟨w.heap.size, 3, none⟩ = some (.slice xb xi xj) ∧ Kq w 64 (w.heap.size + 1) w')
    (first | with_reducible exact keepL4 (by assumption) hb1 | with_reducible exact keepQ4 dx dx dx dx _ _ _ _ (isB_of _) (isS_of _ _ _) (isB_of _) (isS_of _ _ _) (by assumption) | go_keep)
    (first
      | (go_at_call_of 30 (Value.agg #[.bool xn, .slice xa xl xk]); (with_reducible refine (RNeg_any _ (hx1.below (by go_split_ands; exact Kq.bel (by assumption)) (Nat.le_refl _)) sx).mono ?_); rintro e wN ⟨rA, rfl, hA, hb1⟩; obtain ⟨rn, ra, rl, rk, rfl⟩ := hA.parts; have hE : RFracV _ _ (-p) := (by unfold RFracV; rw [Rat.neg_num, Rat.neg_den]; exact RFrV.mk hA (hx2.below (by first | exact (Kq.below (by go_split_ands; assumption) hb1).bel) (Nat.le_refl _))); obtain ⟨_, _, _, _, _, _, _, _, k0, k1, k2, k3, kf0, kf1, kf2, kf3, hX4⟩ := Kq.at (t := 64) (g := w.heap.size + 1) (w := w) (by go_split_ands; assumption) hb1))
  rename_i hS
  have hKf := hS.2.2.2.2
  have hI := RFrV.st4 hE hX4 (.bool rn) (.slice ra rl rk) (.bool xm) (.slice xb xi xj)
  obtain ⟨e0, e1, e2, e3, -⟩ := (hX4.four (.bool rn) (.slice ra rl rk) (.bool xm) (.slice xb xi xj)).c4
  go_wp2_with fail
  refine bodyPost_ret (v := .agg #[.bool rn, .slice ra rl rk, .bool xm, .slice xb xi xj]) (by simp [results, Tryd.results57, go_sem, e0, e1, e2, e3]) rfl ?_
  rw [← HP.out]
  exact ⟨_, rfl, hI, hKf.1⟩

set_option maxRecDepth 100000 in
set_option maxHeartbeats 6400000 in
theorem RCmp2_any {p q : Rat} {u v : Value} (w : World) (hx : RFracV w u p) (hy : RFracV w v q) (hp : Qr p) (hq : Qr q) : Calls Tryd.prog 58 #[u, v] w fun e w' => e = .returned (.int .i64 (ordQ p q)) ∧ Below w.heap.size w w' := by
  generalize hr : ordQ p q = r
  have HR : Hid (ordZ (p + -q).num 0 = r) := hide (by rw [ordQ_sub]; exact hr)
  clear hr
  have hnq : Qr (-q) := Qn.neg hq
  have hpz : Dm (p + -q).num := by rw [← add_div]; exact (Qr.dm hp hnq).2.2.2.2.2.2.2.le (divInt_num_le _ _)
  have d0 : Dm 0 := dm_len (by decide)
  obtain ⟨xn, xa, xl, xk, xm, xb, xi, xj, rfl, hx1, hx2⟩ := RFracV.parts hx
  obtain ⟨yn, ya, yl, yk, ym, yb, yi, yj, rfl, hy1, hy2⟩ := RFracV.parts hy
  obtain ⟨sx, sd, sxx, sdd, sxd, sdx, syd, sad⟩ := Qr.dm hp hq
  obtain ⟨tx, td, -, -, -, -, -, -⟩ := Qr.dm hq hp
  obtain ⟨W, hW⟩ : ∃ W, ((w.alloc (.cells #[.bool xn, .slice xa xl xk, .bool xm, .slice xb xi xj] 64)).alloc (.cells #[.bool yn, .slice ya yl yk, .bool ym, .slice yb yi yj] 64)) = W := ⟨_, rfl⟩
  have bx : Blk W w.heap.size 64 #[.bool xn, .slice xa xl xk, .bool xm, .slice xb xi xj] := by rw [← hW]; exact (Blk.new w _ _).alloc _
  have by_ : Blk W (w.heap.size + 1) 64 #[.bool yn, .slice ya yl yk, .bool ym, .slice yb yi yj] := by rw [← hW]; exact Blk.new_at _ _ _ (by simp)
  have sb : Below w.heap.size w W := by rw [← hW]; exact ((Below.refl w.heap.size w).alloc (Nat.le_refl _) _).alloc (by simp) _
  obtain ⟨cx0, cx1, cx2, cx3, -⟩ := bx.c4
  obtain ⟨cy0, cy1, cy2, cy3, -⟩ := by_.c4
  have HW := hide hW
  clear hW bx by_
  go_enter Tryd.func58, Tryd.ntmps58
  go_upto_region 1 with (fail)
  rw [HW.out]
  clear HW
  have hS1 : W.cell? ⟨w.heap.size, 0, none⟩ = some (.bool xn) ∧ W.cell? ⟨w.heap.size, 1, none⟩ = some (.slice xa xl xk) ∧ W.cell? ⟨w.heap.size, 2, none⟩ = some (.bool xm) ∧ W.cell? ⟨w.heap.size, 3, none⟩ = some (.slice xb xi xj) ∧ W.cell? ⟨w.heap.size + 1, 0, none⟩ = some (.bool yn) ∧ W.cell? ⟨w.heap.size + 1, 1, none⟩ = some (.slice ya yl yk) ∧ W.cell? ⟨w.heap.size + 1, 2, none⟩ = some (.bool ym) ∧ W.cell? ⟨w.heap.size + 1, 3, none⟩ = some (.slice yb yi yj) ∧ Below w.heap.size w W := ⟨cx0, cx1, cx2, cx3, cy0, cy1, cy2, cy3, sb⟩
  have hWs := sb.size
  go_cut [5] from 6 to 9 (fun v5 wc => ∃ g5 sn sa sl sk sm sb_ si sj, v5 = .pointer (some ⟨g5, 0, none⟩) ∧ Blk wc g5 64 #[.bool sn, .slice sa sl sk, .bool sm, .slice sb_ si sj] ∧ NumV wc (.agg #[.bool sn, .slice sa sl sk]) (p + -q).num ∧ Below w.heap.size w wc)
  case first =>
    go_region_held3 (fun w' => w'.cell? ⟨w.heap.size, 0, none⟩ = some (.bool xn) ∧ w'.cell? ⟨w.heap.size, 1, none⟩ = some (.slice xa xl xk) ∧ w'.cell? ⟨w.heap.size, 2, none⟩ = some (.bool xm) ∧ w'.cell? ⟨w.heap.size, 3, none⟩ = some (.slice xb xi xj) ∧ w'.cell? ⟨w.heap.size + 1, 0, none⟩ = some (.bool yn) ∧ w'.cell? ⟨w.heap.size + 1, 1, none⟩ = some (.slice ya yl yk) ∧ w'.cell? ⟨w.heap.size + 1, 2, none⟩ = some (.bool ym) ∧ w'.cell? ⟨w.heap.size + 1, 3, none⟩ = some (.slice yb yi yj) ∧ Below w.heap.size w w')
      (exact keepZ8 hS1 (by repeat (first | with_reducible exact Below.refl _ _ | with_reducible refine bl_drew ?_ | with_reducible refine bl_alloc ?_ _ | with_reducible refine bl_set ?_ (by omega) _ _ | with_reducible refine bl_call ?_ (by with_reducible assumption))))
      (first
        | (go_at_call_of 57 (Value.agg #[.bool yn, .slice ya yl yk, .bool ym, .slice yb yi yj]); (with_reducible refine (RNeg2_any _ (hy.below (by go_split_ands; assumption) (Nat.le_refl _)) hq).mono ?_); rintro e wN ⟨rA, rfl, hA0, hb1⟩; have hs1 := hb1.size; (try simp only [World.size_drew] at hs1); (try simp only [World.size_alloc] at hs1); (first | with_reducible replace hA := Blk.later hb1 hA | with_reducible replace hA := Blk.later hb1 (Blk.drew hA) | skip); (first | (have _t := hA) | (have hA := Blk.later hb1 (Blk.new _ _ _)) | (have hA := Blk.later hb1 (Blk.drew (Blk.new _ _ _))) | skip); (try (try simp only [World.size_alloc] at hA); obtain ⟨kA0, kA1, kA2, kA3, kAf⟩ := hA.c4; have kA4 := kAf 0; have kA5 := kAf 1; have kA6 := kAf 2; have kA7 := kAf 3; have kAl := hA.lt; clear kAf))
        | (go_at_call_of 54 rA; (with_reducible refine (RAdd2_any _ (hx.below (by go_split_ands; assumption) (Nat.le_refl _)) (by repeat (first | with_reducible assumption | with_reducible refine RFracV.allocd ?_ _ | with_reducible refine RFracV.drewd ?_)) hp hnq).mono ?_); rintro e wN ⟨rB, rfl, hB0, hb1⟩; obtain ⟨sn, sa, sl, sk, sm, sd_, si, sj, rfl, hs1, hs2⟩ := RFracV.parts hB0; have hs1 := hb1.size; (try simp only [World.size_drew] at hs1); (try simp only [World.size_alloc] at hs1); (first | with_reducible replace hA := Blk.later hb1 hA | with_reducible replace hA := Blk.later hb1 (Blk.drew hA) | skip); (first | (have _t := hA) | (have hA := Blk.later hb1 (Blk.new _ _ _)) | (have hA := Blk.later hb1 (Blk.drew (Blk.new _ _ _))) | skip); (try (try simp only [World.size_alloc] at hA); obtain ⟨kA0, kA1, kA2, kA3, kAf⟩ := hA.c4; have kA4 := kAf 0; have kA5 := kAf 1; have kA6 := kAf 2; have kA7 := kAf 3; have kAl := hA.lt; clear kAf)))
    all_goals
      go_wp2_with fail
      go_meet
      refine ⟨_, sn, sa, sl, sk, sm, sd_, si, sj, rfl, ?r1, ?r2, ?r5⟩
      case r1 => repeat (first | with_reducible refine Blk.later (by with_reducible assumption) ?_ | with_reducible refine Blk.drew ?_ | with_reducible exact Blk.new _ _ _ | with_reducible exact Blk.new_at _ _ _ (World.size_alloc _ _).symm | with_reducible refine Blk.alloc ?_ _ | with_reducible refine Blk.four (p := .bool false) (q := .slice none 0 0) (r := .bool false) (s := .slice none 0 0) ?_ _ _ _ _ | with_reducible refine Blk.far ?_ (by simp only [ne_eq]; omega) _)
      case r2 => ((repeat (first | with_reducible assumption | with_reducible refine NumV.drewd ?_ | with_reducible refine NumV.allocd ?_ _ | with_reducible refine NumV.st4 ?_ (t := 64) (n := false) (a := none) (l := 0) (k := 0) (n' := false) (a' := none) (l' := 0) (k' := 0) ?_ _ _ _ _ | with_reducible refine NumV.later (by with_reducible assumption) ?_)); all_goals repeat (first | with_reducible refine Blk.later (by with_reducible assumption) ?_ | with_reducible refine Blk.drew ?_ | with_reducible exact Blk.new _ _ _ | with_reducible exact Blk.new_at _ _ _ (World.size_alloc _ _).symm | with_reducible refine Blk.alloc ?_ _ | with_reducible refine Blk.four (p := .bool false) (q := .slice none 0 0) (r := .bool false) (s := .slice none 0 0) ?_ _ _ _ _ | with_reducible refine Blk.far ?_ (by simp only [ne_eq]; omega) _))
      case r5 => exact (keepZ8 hS1 (by repeat (first | with_reducible exact Below.refl _ _ | with_reducible refine bl_drew ?_ | with_reducible refine bl_alloc ?_ _ | with_reducible refine bl_set ?_ (by omega) _ _ | with_reducible refine bl_call ?_ (by with_reducible assumption)))).2.2.2.2.2.2.2.2
  case rest =>
    obtain ⟨g5, sn, sa, sl, sk, sm, sd_, si, sj, rfl, hBa, ha, sbc⟩ := hcut
    clear hS1 cx0 cx1 cx2 cx3 cy0 cy1 cy2 cy3 hWs sb hx hx1 hx2 hy hy1 hy2
    rename_i wc
    obtain ⟨s0, s1, -⟩ := hBa.c4
    replace ha := ha.drewd
    have sbd := sbc.drew
    have hKd : wc.drew.cell? ⟨g5, 0, none⟩ = some (.bool sn) ∧ wc.drew.cell? ⟨g5, 1, none⟩ = some (.slice sa sl sk) ∧ Below w.heap.size w wc.drew := ⟨s0, s1, sbd⟩
    go_upto_region 2 with (fail)
    go_region_held3 (fun w' => w'.cell? ⟨g5, 0, none⟩ = some (.bool sn) ∧ w'.cell? ⟨g5, 1, none⟩ = some (.slice sa sl sk) ∧ Below w.heap.size w w')
      (first | with_reducible exact keepZ2 (by assumption) hb1 | go_keep)
      (first
        | (go_at_call_of 19 (Value.int .i64 0); (with_reducible refine (RInt_any 0 _ (by decide) (by decide)).mono ?_); rintro e wN ⟨rC, rfl, hC, hb1⟩; replace ha := ha.below hb1 (Nat.le_refl _))
        | (go_at_call_of 34 rC; (with_reducible refine (RCmp_at ha hC hpz d0 (Below.refl _ _) HR.out).mono ?_); rintro e wN ⟨rfl, hb1⟩))
    rename_i hS
    have hB := hS.2.2
    go_wp2_with fail
    go_ret
    exact ⟨rfl, hB⟩

end Go.Proofs.YthpibilefdmemaaDoor
