/- frac's Mul, Div, Cmp, Neg, Add, Floor, Text: by their contracts. -/
import Derived.Test.YthpibilefdmemaaDoorFrac3
namespace Go.Proofs.YthpibilefdmemaaDoor
open Go.RowKit

theorem FracV.parts {w : World} {v : Value} {q : Rat} (h : FracV w v q) : ∃ (n1 : Bool) (a1 : Option Addr) (l1 k1 : Nat) (n2 : Bool) (a2 : Option Addr) (l2 k2 : Nat), v = .agg #[.bool n1, .slice a1 l1 k1, .bool n2, .slice a2 l2 k2] ∧ IntV w (.agg #[.bool n1, .slice a1 l1 k1]) q.num ∧ IntV w (.agg #[.bool n2, .slice a2 l2 k2]) (und q) := h
/-- Sizes of what is reckoned with. -/
theorem Qz.sm {p q : Rat} (hp : Qz p) (hq : Qz q) : Sm p.num ∧ Sm (p.den : Int) ∧ Sm (und p) ∧ Sm (p.num * q.num) ∧ Sm ((p.den : Int) * (q.den : Int)) ∧ Sm (p.num * (q.den : Int)) ∧ Sm ((p.den : Int) * q.num) ∧ Sm (q.num * (p.den : Int)) ∧ Sm (p.num * (q.den : Int) + q.num * (p.den : Int)) := by
  have hu := len_und hp
  obtain ⟨a1, a2⟩ := hp
  obtain ⟨b1, b2⟩ := hq
  have m1 := len_mul p.num q.num
  have m2 := len_mul (p.den : Int) (q.den : Int)
  have m3 := len_mul p.num (q.den : Int)
  have m4 := len_mul (p.den : Int) q.num
  have m5 := len_mul q.num (p.den : Int)
  have m6 := len_add (p.num * (q.den : Int)) (q.num * (p.den : Int))
  unfold Sm
  refine ⟨?_, ?_, ?_, ?_, ?_, ?_, ?_, ?_, ?_⟩ <;> omega
/-- How two fractions stand. -/
def ordQ (p q : Rat) : Int := ordZ (p.num * (q.den : Int)) (q.num * (p.den : Int))
theorem ordQ_eq (p q : Rat) : ordQ p q = if p < q then -1 else if q < p then 1 else 0 := by
  unfold ordQ ordZ
  simp only [Rat.lt_iff]
section
variable {w c : World} {x y : Int} {u v : Value}
theorem Mul_c (hx : IntV w u x) (hy : IntV w v y) (hn : Sm x) (hm : Sm y) (hB : Below w.heap.size w c) : Calls Tryd.prog 27 #[u, v] c (IntPost c (x * y)) := Mul_at hx hy hn hm hB
end

set_option maxRecDepth 100000 in
set_option maxHeartbeats 1600000 in
theorem FMul_any {p q : Rat} {u v : Value} (w : World) (hx : FracV w u p) (hy : FracV w v q) (hp : Qz p) (hq : Qz q) : Calls Tryd.prog 47 #[u, v] w (FracPost w (p * q)) := by
  generalize hP : FracPost w (p * q) = Post
  have HP := hide hP
  clear hP
  obtain ⟨xn, xa, xl, xk, xm, xb, xi, xj, rfl, hx1, hx2⟩ := FracV.parts hx
  obtain ⟨yn, ya, yl, yk, ym, yb, yi, yj, rfl, hy1, hy2⟩ := FracV.parts hy
  obtain ⟨sx, sd, su, sxx, sdd, sxd, sdx, syd, sad⟩ := Qz.sm hp hq
  obtain ⟨tx, td, tu, -, -, -, -, -, -⟩ := Qz.sm hq hp
  obtain ⟨W, hW⟩ : ∃ W, (((w.alloc (.cells #[.bool xn, .slice xa xl xk, .bool xm, .slice xb xi xj] 58)).alloc (.cells #[.bool yn, .slice ya yl yk, .bool ym, .slice yb yi yj] 58)).alloc (.cells #[.bool false, .slice none 0 0, .bool false, .slice none 0 0] 58)) = W := ⟨_, rfl⟩
  have bx : Blk W w.heap.size 58 #[.bool xn, .slice xa xl xk, .bool xm, .slice xb xi xj] := by rw [← hW]; exact ((Blk.new w _ _).alloc _).alloc _
  have by_ : Blk W (w.heap.size + 1) 58 #[.bool yn, .slice ya yl yk, .bool ym, .slice yb yi yj] := by rw [← hW]; exact (Blk.new_at _ _ _ (by simp)).alloc _
  have bR : Blk W (w.heap.size + 1 + 1) 58 #[.bool false, .slice none 0 0, .bool false, .slice none 0 0] := by rw [← hW]; exact Blk.new_at _ _ _ (by simp)
  have sb : Below w.heap.size w W := by rw [← hW]; exact (((Below.refl w.heap.size w).alloc (Nat.le_refl _) _).alloc (by simp) _).alloc (by simp; omega) _
  obtain ⟨cx0, cx1, cx2, cx3, -⟩ := bx.c4
  obtain ⟨cy0, cy1, cy2, cy3, -⟩ := by_.c4
  have hK : Kq w 58 (w.heap.size + 1 + 1) W := ⟨sb, by omega, _, _, _, _, _, _, _, _, bR⟩
  have HW := hide hW
  clear hW bx by_ bR
  go_enter Tryd.func47, Tryd.ntmps47
  go_upto_region 1 with (fail)
  rw [HW.out]
  clear HW
  have hK1 := hK.drew
  have dx : w.heap.size ≠ w.heap.size + 1 + 1 := by omega
  have dy : w.heap.size + 1 ≠ w.heap.size + 1 + 1 := by omega
  go_region_held3 (fun w' => w'.cell? ⟨w.heap.size, 0, none⟩ = some (.bool xn) ∧ w'.cell? ⟨w.heap.size, 1, none⟩ = some (.slice xa xl xk) ∧ w'.cell? ⟨w.heap.size, 2, none⟩ = some (.bool xm) ∧ w'.cell? ⟨w.heap.size, 3, none⟩ = some (.slice xb xi xj) ∧ w'.cell? ⟨w.heap.size + 1, 0, none⟩ = some (.bool yn) ∧ w'.cell? ⟨w.heap.size + 1, 1, none⟩ = some (.slice ya yl yk) ∧ w'.cell? ⟨w.heap.size + 1, 2, none⟩ = some (.bool ym) ∧ w'.cell? ⟨w.heap.size + 1, 3, none⟩ = some (.slice yb yi yj) ∧ Kq w 58 (w.heap.size + 1 + 1) w')
    (first | with_reducible exact keepL8 (by assumption) hb1 | with_reducible exact keepQ8 dx dx dx dx dy dy dy dy _ _ _ _ (isB_of _) (isS_of _ _ _) (isB_of _) (isS_of _ _ _) (by assumption) | go_keep)
    (first
      | (go_at_call_of 27 (Value.agg #[.bool xn, .slice xa xl xk]); (with_reducible refine (Mul_at hx1 hy1 sx tx (by go_split_ands; exact Kq.bel (by assumption))).mono ?_); rintro e wN ⟨rA, rfl, hA, hb1⟩)
      | (go_at_call_of 80 (Value.agg #[.bool xn, .slice xa xl xk, .bool xm, .slice xb xi xj]); (with_reducible refine (under_at hx (by go_split_ands; exact Kq.bel (by assumption))).mono ?_); rintro e wN ⟨rB, rfl, hB, hb1⟩; replace hA := hA.below hb1 (Nat.le_refl _))
      | (go_at_call_of 80 (Value.agg #[.bool yn, .slice ya yl yk, .bool ym, .slice yb yi yj]); (with_reducible refine (under_at hy (by go_split_ands; exact Kq.bel (by assumption))).mono ?_); rintro e wN ⟨rC, rfl, hC, hb1⟩; replace hA := hA.below hb1 (Nat.le_refl _); replace hB := hB.below hb1 (Nat.le_refl _))
      | (go_at_call_of 27 rC; (with_reducible refine (Mul_any _ hB hC sd td).mono ?_); rintro e wN ⟨rD, rfl, hD, hb1⟩; replace hA := hA.below hb1 (Nat.le_refl _))
      | (go_at_call_of 41 rD; (with_reducible refine (FMake_any _ hA hD sxx sdd).mono ?_); rintro e wN ⟨rE, rfl, hE, hb1⟩; rw [mul_div] at hE; obtain ⟨rn, ra, rl, rk, rm, rb, ri, rj, rfl, -, -⟩ := FracV.parts hE; obtain ⟨_, _, _, _, _, _, _, _, k0, k1, k2, k3, kf0, kf1, kf2, kf3, hX4⟩ := Kq.at (t := 58) (g := w.heap.size + 1 + 1) (w := w) (by go_split_ands; assumption) hb1))
  rename_i hS
  have hKf := hS.2.2.2.2.2.2.2.2
  have hI := FrV.st4 hE hX4 (.bool rn) (.slice ra rl rk) (.bool rm) (.slice rb ri rj)
  obtain ⟨e0, e1, e2, e3, -⟩ := (hX4.four (.bool rn) (.slice ra rl rk) (.bool rm) (.slice rb ri rj)).c4
  go_wp2_with fail
  refine bodyPost_ret (v := Value.agg #[.bool rn, .slice ra rl rk, .bool rm, .slice rb ri rj]) (by simp [results, Tryd.results47, go_sem, e0, e1, e2, e3]) rfl ?_
  rw [← HP.out]
  exact ⟨_, rfl, hI, hKf.1⟩

set_option maxRecDepth 100000 in
set_option maxHeartbeats 1600000 in
theorem FDiv_any {p q : Rat} {u v : Value} (w : World) (hx : FracV w u p) (hy : FracV w v q) (hp : Qz p) (hq : Qz q) : Calls Tryd.prog 49 #[u, v] w (FracPost w (p / q)) := by
  generalize hP : FracPost w (p / q) = Post
  have HP := hide hP
  clear hP
  obtain ⟨xn, xa, xl, xk, xm, xb, xi, xj, rfl, hx1, hx2⟩ := FracV.parts hx
  obtain ⟨yn, ya, yl, yk, ym, yb, yi, yj, rfl, hy1, hy2⟩ := FracV.parts hy
  obtain ⟨sx, sd, su, sxx, sdd, sxd, sdx, syd, sad⟩ := Qz.sm hp hq
  obtain ⟨tx, td, tu, -, -, -, -, -, -⟩ := Qz.sm hq hp
  obtain ⟨W, hW⟩ : ∃ W, (((w.alloc (.cells #[.bool xn, .slice xa xl xk, .bool xm, .slice xb xi xj] 58)).alloc (.cells #[.bool yn, .slice ya yl yk, .bool ym, .slice yb yi yj] 58)).alloc (.cells #[.bool false, .slice none 0 0, .bool false, .slice none 0 0] 58)) = W := ⟨_, rfl⟩
  have bx : Blk W w.heap.size 58 #[.bool xn, .slice xa xl xk, .bool xm, .slice xb xi xj] := by rw [← hW]; exact ((Blk.new w _ _).alloc _).alloc _
  have by_ : Blk W (w.heap.size + 1) 58 #[.bool yn, .slice ya yl yk, .bool ym, .slice yb yi yj] := by rw [← hW]; exact (Blk.new_at _ _ _ (by simp)).alloc _
  have bR : Blk W (w.heap.size + 1 + 1) 58 #[.bool false, .slice none 0 0, .bool false, .slice none 0 0] := by rw [← hW]; exact Blk.new_at _ _ _ (by simp)
  have sb : Below w.heap.size w W := by rw [← hW]; exact (((Below.refl w.heap.size w).alloc (Nat.le_refl _) _).alloc (by simp) _).alloc (by simp; omega) _
  obtain ⟨cx0, cx1, cx2, cx3, -⟩ := bx.c4
  obtain ⟨cy0, cy1, cy2, cy3, -⟩ := by_.c4
  have hK : Kq w 58 (w.heap.size + 1 + 1) W := ⟨sb, by omega, _, _, _, _, _, _, _, _, bR⟩
  have HW := hide hW
  clear hW bx by_ bR
  go_enter Tryd.func49, Tryd.ntmps49
  go_upto_region 1 with (fail)
  rw [HW.out]
  clear HW
  have hK1 := hK.drew
  have dx : w.heap.size ≠ w.heap.size + 1 + 1 := by omega
  have dy : w.heap.size + 1 ≠ w.heap.size + 1 + 1 := by omega
  go_region_held3 (fun w' => w'.cell? ⟨w.heap.size, 0, none⟩ = some (.bool xn) ∧ w'.cell? ⟨w.heap.size, 1, none⟩ = some (.slice xa xl xk) ∧ w'.cell? ⟨w.heap.size, 2, none⟩ = some (.bool xm) ∧ w'.cell? ⟨w.heap.size, 3, none⟩ = some (.slice xb xi xj) ∧ w'.cell? ⟨w.heap.size + 1, 0, none⟩ = some (.bool yn) ∧ w'.cell? ⟨w.heap.size + 1, 1, none⟩ = some (.slice ya yl yk) ∧ w'.cell? ⟨w.heap.size + 1, 2, none⟩ = some (.bool ym) ∧ w'.cell? ⟨w.heap.size + 1, 3, none⟩ = some (.slice yb yi yj) ∧ Kq w 58 (w.heap.size + 1 + 1) w')
    (first | with_reducible exact keepL8 (by assumption) hb1 | with_reducible exact keepQ8 dx dx dx dx dy dy dy dy _ _ _ _ (isB_of _) (isS_of _ _ _) (isB_of _) (isS_of _ _ _) (by assumption) | go_keep)
    (first
      | (go_at_call_of 80 (Value.agg #[.bool yn, .slice ya yl yk, .bool ym, .slice yb yi yj]); (with_reducible refine (under_at hy (by go_split_ands; exact Kq.bel (by assumption))).mono ?_); rintro e wN ⟨rA, rfl, hA, hb1⟩)
      | (go_at_call_of 27 rA; (with_reducible refine (Mul_any _ (hx1.below (by go_split_ands; exact Kq.bel (by assumption)) (Nat.le_refl _)) hA sx td).mono ?_); rintro e wN ⟨rB, rfl, hB, hb1⟩)
      | (go_at_call_of 80 (Value.agg #[.bool xn, .slice xa xl xk, .bool xm, .slice xb xi xj]); (with_reducible refine (under_at hx (by go_split_ands; exact Kq.bel (by assumption))).mono ?_); rintro e wN ⟨rC, rfl, hC, hb1⟩; replace hB := hB.below hb1 (Nat.le_refl _))
      | (go_at_call_of 27 rC; (with_reducible refine (Mul_any _ hC (hy1.below (by go_split_ands; exact Kq.bel (by assumption)) (Nat.le_refl _)) sd tx).mono ?_); rintro e wN ⟨rD, rfl, hD, hb1⟩; replace hB := hB.below hb1 (Nat.le_refl _))
      | (go_at_call_of 41 rD; (with_reducible refine (FMake_any _ hB hD sxd sdx).mono ?_); rintro e wN ⟨rE, rfl, hE, hb1⟩; rw [div_div] at hE; obtain ⟨rn, ra, rl, rk, rm, rb, ri, rj, rfl, -, -⟩ := FracV.parts hE; obtain ⟨_, _, _, _, _, _, _, _, k0, k1, k2, k3, kf0, kf1, kf2, kf3, hX4⟩ := Kq.at (t := 58) (g := w.heap.size + 1 + 1) (w := w) (by go_split_ands; assumption) hb1))
  rename_i hS
  have hKf := hS.2.2.2.2.2.2.2.2
  have hI := FrV.st4 hE hX4 (.bool rn) (.slice ra rl rk) (.bool rm) (.slice rb ri rj)
  obtain ⟨e0, e1, e2, e3, -⟩ := (hX4.four (.bool rn) (.slice ra rl rk) (.bool rm) (.slice rb ri rj)).c4
  go_wp2_with fail
  refine bodyPost_ret (v := Value.agg #[.bool rn, .slice ra rl rk, .bool rm, .slice rb ri rj]) (by simp [results, Tryd.results49, go_sem, e0, e1, e2, e3]) rfl ?_
  rw [← HP.out]
  exact ⟨_, rfl, hI, hKf.1⟩

set_option maxRecDepth 100000 in
set_option maxHeartbeats 1600000 in
theorem FCmp_any {p q : Rat} {u v : Value} (w : World) (hx : FracV w u p) (hy : FracV w v q) (hp : Qz p) (hq : Qz q) : Calls Tryd.prog 46 #[u, v] w fun e w' => e = .returned (.int .i64 (ordQ p q)) ∧ Below w.heap.size w w' := by
  generalize hr : ordQ p q = r
  have HR : Hid (ordZ (p.num * (q.den : Int)) (q.num * (p.den : Int)) = r) := hide hr
  clear hr
  obtain ⟨xn, xa, xl, xk, xm, xb, xi, xj, rfl, hx1, hx2⟩ := FracV.parts hx
  obtain ⟨yn, ya, yl, yk, ym, yb, yi, yj, rfl, hy1, hy2⟩ := FracV.parts hy
  obtain ⟨sx, sd, su, sxx, sdd, sxd, sdx, syd, sad⟩ := Qz.sm hp hq
  obtain ⟨tx, td, tu, -, -, -, -, -, -⟩ := Qz.sm hq hp
  obtain ⟨W, hW⟩ : ∃ W, ((w.alloc (.cells #[.bool xn, .slice xa xl xk, .bool xm, .slice xb xi xj] 58)).alloc (.cells #[.bool yn, .slice ya yl yk, .bool ym, .slice yb yi yj] 58)) = W := ⟨_, rfl⟩
  have bx : Blk W w.heap.size 58 #[.bool xn, .slice xa xl xk, .bool xm, .slice xb xi xj] := by rw [← hW]; exact (Blk.new w _ _).alloc _
  have by_ : Blk W (w.heap.size + 1) 58 #[.bool yn, .slice ya yl yk, .bool ym, .slice yb yi yj] := by rw [← hW]; exact Blk.new_at _ _ _ (by simp)
  have sb : Below w.heap.size w W := by rw [← hW]; exact ((Below.refl w.heap.size w).alloc (Nat.le_refl _) _).alloc (by simp) _
  obtain ⟨cx0, cx1, cx2, cx3, -⟩ := bx.c4
  obtain ⟨cy0, cy1, cy2, cy3, -⟩ := by_.c4
  have HW := hide hW
  clear hW bx by_
  go_enter Tryd.func46, Tryd.ntmps46
  go_upto_region 1 with (fail)
  rw [HW.out]
  clear HW
  have sb1 := sb.drew
  go_region_held3 (fun w' => w'.cell? ⟨w.heap.size, 0, none⟩ = some (.bool xn) ∧ w'.cell? ⟨w.heap.size, 1, none⟩ = some (.slice xa xl xk) ∧ w'.cell? ⟨w.heap.size, 2, none⟩ = some (.bool xm) ∧ w'.cell? ⟨w.heap.size, 3, none⟩ = some (.slice xb xi xj) ∧ w'.cell? ⟨w.heap.size + 1, 0, none⟩ = some (.bool yn) ∧ w'.cell? ⟨w.heap.size + 1, 1, none⟩ = some (.slice ya yl yk) ∧ w'.cell? ⟨w.heap.size + 1, 2, none⟩ = some (.bool ym) ∧ w'.cell? ⟨w.heap.size + 1, 3, none⟩ = some (.slice yb yi yj) ∧ Below w.heap.size w w')
    (first | with_reducible exact keepZ8 (by assumption) hb1 | go_keep)
    (first
      | (go_at_call_of 80 (Value.agg #[.bool yn, .slice ya yl yk, .bool ym, .slice yb yi yj]); (with_reducible refine (under_at hy (by go_split_ands; assumption)).mono ?_); rintro e wN ⟨rA, rfl, hA, hb1⟩)
      | (go_at_call_of 27 rA; (with_reducible refine (Mul_any _ (hx1.below (by go_split_ands; assumption) (Nat.le_refl _)) hA sx td).mono ?_); rintro e wN ⟨rB, rfl, hB, hb1⟩)
      | (go_at_call_of 80 (Value.agg #[.bool xn, .slice xa xl xk, .bool xm, .slice xb xi xj]); (with_reducible refine (under_at hx (by go_split_ands; assumption)).mono ?_); rintro e wN ⟨rC, rfl, hC, hb1⟩; replace hB := hB.below hb1 (Nat.le_refl _))
      | (go_at_call_of 27 rC; (with_reducible refine (Mul_any _ (hy1.below (by go_split_ands; assumption) (Nat.le_refl _)) hC tx sd).mono ?_); rintro e wN ⟨rD, rfl, hD, hb1⟩; replace hB := hB.below hb1 (Nat.le_refl _))
      | (go_at_call_of 33 rD; (with_reducible refine (Cmp_at hB hD sxd syd (Below.refl _ _) HR.out).mono ?_); rintro e wN ⟨rfl, hb1⟩))
  rename_i hS
  have hB := hS.2.2.2.2.2.2.2.2
  go_wp2_with fail
  go_ret
  exact ⟨rfl, hB⟩

set_option maxRecDepth 100000 in
set_option maxHeartbeats 1600000 in
theorem FNeg_any {p : Rat} {u : Value} (w : World) (hx : FracV w u p) (hp : Qz p) : Calls Tryd.prog 48 #[u] w (FracPost w (-p)) := by
  generalize hP : FracPost w (-p) = Post
  have HP := hide hP
  clear hP
  obtain ⟨sx, sd, su, -, -, -, -, -, -⟩ := Qz.sm hp hp
  obtain ⟨xn, xa, xl, xk, xm, xb, xi, xj, rfl, hx1, hx2⟩ := FracV.parts hx
  obtain ⟨W, hW⟩ : ∃ W, ((w.alloc (.cells #[.bool xn, .slice xa xl xk, .bool xm, .slice xb xi xj] 58)).alloc (.cells #[.bool false, .slice none 0 0, .bool false, .slice none 0 0] 58)) = W := ⟨_, rfl⟩
  have bx : Blk W w.heap.size 58 #[.bool xn, .slice xa xl xk, .bool xm, .slice xb xi xj] := by rw [← hW]; exact (Blk.new w _ _).alloc _
  have bR : Blk W (w.heap.size + 1) 58 #[.bool false, .slice none 0 0, .bool false, .slice none 0 0] := by rw [← hW]; exact Blk.new_at _ _ _ (by simp)
  have sb : Below w.heap.size w W := by rw [← hW]; exact ((Below.refl w.heap.size w).alloc (Nat.le_refl _) _).alloc (by simp) _
  obtain ⟨cx0, cx1, cx2, cx3, -⟩ := bx.c4
  have hK : Kq w 58 (w.heap.size + 1) W := ⟨sb, by omega, _, _, _, _, _, _, _, _, bR⟩
  have HW := hide hW
  clear hW bx bR
  go_enter Tryd.func48, Tryd.ntmps48
  go_upto_region 1 with (fail)
  rw [HW.out]
  clear HW
  have hK1 := hK.drew
  have dx : w.heap.size ≠ w.heap.size + 1 := by omega
  go_region_held3 (fun w' => w'.cell? ⟨w.heap.size, 0, none⟩ = some (.bool xn) ∧ w'.cell? ⟨w.heap.size, 1, none⟩ = some (.slice xa xl xk) ∧ w'.cell? ⟨w.heap.size, 2, none⟩ = some (.bool xm) ∧ w'.cell? ⟨w.heap.size, 3, none⟩ = some (.slice xb xi xj) ∧ Kq w 58 (w.heap.size + 1) w')
    (first | with_reducible exact keepL4 (by assumption) hb1 | with_reducible exact keepQ4 dx dx dx dx _ _ _ _ (isB_of _) (isS_of _ _ _) (isB_of _) (isS_of _ _ _) (by assumption) | go_keep)
    (first
      | (go_at_call_of 29 (Value.agg #[.bool xn, .slice xa xl xk]); (with_reducible refine (Neg_any _ (hx1.below (by go_split_ands; exact Kq.bel (by assumption)) (Nat.le_refl _)) sx).mono ?_); rintro e wN ⟨rA, rfl, hA, hb1⟩; obtain ⟨rn, ra, rl, rk, rfl⟩ := hA.parts)
      | (go_at_call_of 79 (Value.agg #[.bool xm, .slice xb xi xj]); (with_reducible refine (fcopied_any _ (hx2.below (by go_split_ands; exact Kq.bel (by assumption)) (Nat.le_refl _)) su).mono ?_); rintro e wN ⟨rB, rfl, hB, hb1⟩; replace hA := hA.below hb1 (Nat.le_refl _); obtain ⟨rm, rb, ri, rj, rfl⟩ := hB.parts; have hE : FracV _ _ (-p) := (by unfold FracV; rw [Rat.neg_num, und_neg]; exact FrV.mk hA hB); obtain ⟨_, _, _, _, _, _, _, _, k0, k1, k2, k3, kf0, kf1, kf2, kf3, hX4⟩ := Kq.at (t := 58) (g := w.heap.size + 1) (w := w) (by go_split_ands; assumption) hb1))
  rename_i hS
  have hKf := hS.2.2.2.2
  have hI := FrV.st4 hE hX4 (.bool rn) (.slice ra rl rk) (.bool rm) (.slice rb ri rj)
  obtain ⟨e0, e1, e2, e3, -⟩ := (hX4.four (.bool rn) (.slice ra rl rk) (.bool rm) (.slice rb ri rj)).c4
  go_wp2_with fail
  refine bodyPost_ret (v := Value.agg #[.bool rn, .slice ra rl rk, .bool rm, .slice rb ri rj]) (by simp [results, Tryd.results48, go_sem, e0, e1, e2, e3]) rfl ?_
  rw [← HP.out]
  exact ⟨_, rfl, hI, hKf.1⟩

end Go.Proofs.YthpibilefdmemaaDoor
