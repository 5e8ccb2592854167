/- The walk of the law WholeReads. -/
import Derived.Test.YthpibilefdmemaaDoorRParse
import Derived.Test.YthpibilefdmemaaDoorOrder
import Derived.Deep.RegionHeld3
namespace Go.Proofs.YthpibilefdmemaaDoor
open Go.RowKit

theorem keepD {w c w1 : World} {g : Nat} {p q : Value} (h : c.cell? ⟨g, 0, none⟩ = some p ∧ c.cell? ⟨g, 1, none⟩ = some q ∧ Below w.heap.size w c) (hb : Below c.heap.size c w1) :
    w1.cell? ⟨g, 0, none⟩ = some p ∧ w1.cell? ⟨g, 1, none⟩ = some q ∧ Below w.heap.size w w1 := ⟨cellK hb h.1, cellK hb h.2.1, h.2.2.trans (hb.mono h.2.2.size)⟩
theorem RRight_int {c : World} {x : Int} {v : Value} (hx : IntV c v x) (hn : Sm x) :
    Calls Tryd.prog 17 #[v] c fun e w' => e = .returned (.bool true) ∧ Below c.heap.size c w' := by
  obtain ⟨a, cap, rfl, _, hd⟩ := hx
  have h := RRight_any (decide (x < 0)) a cap (dg BB x.natAbs) c hd (by unfold Sm len at hn; omega)
  rw [rightB_dg] at h
  exact h
theorem Same_yes {c : World} {x y : Int} {u v : Value} (hx : IntV c u x) (hy : IntV c v y) (e : x = y) (hn : Sm x) :
    Calls Tryd.prog 14 #[u, v] c fun e w' => e = .returned (.bool true) ∧ Below c.heap.size c w' := by
  have h := Same_any c hx hy hn
  rw [decide_eq_true e] at h
  exact h
theorem ten_le {n k : Nat} (h : n < 10 ^ k) : (dg 10 n).length ≤ k := dg_len T2 h
theorem ten_BB {n k : Nat} (h : n < 10 ^ k) : (dg BB n).length ≤ k := dg_len BB2 (Nat.lt_of_lt_of_le h (Nat.pow_le_pow_left (by decide) k))

theorem numT_small {s : List UInt8} (h : s.length ≤ 200) : (numT s).natAbs < 10 ^ 200 := by
  unfold numT
  split
  · rename_i hok
    have h1 : (body s).all decB = true := by unfold okT at hok; simp only [Bool.and_eq_true] at hok; exact hok.2
    have h2 := decN_lt _ h1
    have h3 : (body s).length ≤ s.length := by unfold body; split <;> simp
    have e : ∀ b, (signZ b (decN (body s))).natAbs = decN (body s) := fun b => by cases b <;> simp [signZ]
    rw [e]
    exact Nat.lt_of_lt_of_le h2 (Nat.pow_le_pow_right (by decide) (by omega))
  · exact Nat.pow_pos (by decide)

set_option maxRecDepth 100000 in
set_option maxHeartbeats 3200000 in
theorem reads_walk (s : List UInt8) (m : Int) (x : Raw) (w : World) (hx : RawOk w x) (ht : Tab w) (hs : s.length ≤ 9223372036854775807) (hm1 : -9223372036854775808 ≤ m) (hm2 : m ≤ 9223372036854775807) :
    Calls Tryd.prog 3 #[.string ⟨s.toArray⟩, .int .i64 m, x.val] w fun e w' => e = .returned (.bool true) ∧ Below w.heap.size w w' := by
  have hsz : (⟨s.toArray⟩ : ByteArray).size = s.length := by simp [ByteArray.size]
  obtain ⟨n1, a1, c1, d1⟩ := x
  obtain ⟨hd1, hf1, hl1⟩ := hx
  unfold Raw.val
  simp only at hd1 hf1 hl1 ⊢
  obtain ⟨W, hW⟩ : ∃ W, w.alloc (.cells #[.bool n1, .slice a1 d1.length c1] 24) = W := ⟨_, rfl⟩
  have hX0 : Blk W w.heap.size 24 #[.bool n1, .slice a1 d1.length c1] := by rw [← hW]; exact Blk.new w _ _
  have hB0 : Below w.heap.size w W := by rw [← hW]; exact (Below.refl _ _).alloc (Nat.le_refl _) _
  have HW := hide hW
  clear hW
  go_enter Tryd.func3, Tryd.ntmps3
  go_upto_region 1 with (fail)
  rw [HW.out]
  clear HW
  go_wp2_with fail
  refine (speaks_any W (ht.atBelow hB0 (Nat.le_refl _))).mono ?_
  rintro e w1 ⟨rfl, hb1⟩
  have hX1 := hX0.below hb1 hX0.lt
  have hB1 : Below w.heap.size w w1 := hB0.trans (hb1.mono hB0.size)
  clear hX0 hB0 hb1
  obtain ⟨x0, x1, -⟩ := hX1.c2
  by_cases hs2 : 200 < s.length
  · have t1 : decide ((200 : Int) < (s.length : Int)) = true := decide_eq_true (by omega)
    go_wp2_with fail
    go_ret
    exact ⟨rfl, hB1⟩
  have t1 : decide ((200 : Int) < (s.length : Int)) = false := decide_eq_false (by omega)
  have t1' : ¬ (200 : Int) < (s.length : Int) := by omega
  by_cases hx2 : 50 < d1.length
  · have t2 : decide ((50 : Int) < (d1.length : Int)) = true := decide_eq_true (by omega)
    have t2' : (50 : Int) < (d1.length : Int) := by omega
    go_wp2_with fail
    go_ret
    exact ⟨rfl, hB1⟩
  have t2 : decide ((50 : Int) < (d1.length : Int)) = false := decide_eq_false (by omega)
  have t2' : ¬ (50 : Int) < (d1.length : Int) := by omega
  have hns := numT_small (s := s) (by omega)
  have sN : Sm (numT s) := by have := ten_BB hns; unfold Sm len; omega
  have sD : dlen (numT s) ≤ 100000000000 := by have := ten_le hns; unfold dlen; omega
  clear hns
  go_wp2_with fail
  refine (Parse_any s w1 (by omega)).mono ?_
  rintro e w2 ⟨ry, rfl, hY, hb2⟩
  obtain ⟨yn, ya, yl, yc, rfl⟩ := hY.parts
  have hX2 := hX1.below hb2 hX1.lt
  have hB2 : Below w.heap.size w w2 := hB1.trans (hb2.mono hB1.size)
  clear hX1 hB1 hb2 x0 x1 t1 t1' t2 t2'
  obtain ⟨w3, hw3⟩ : ∃ w3, w2.alloc (.cells #[.bool yn, .slice ya yl yc] 24) = w3 := ⟨_, rfl⟩
  have hY3 : Blk w3 w2.heap.size 24 #[.bool yn, .slice ya yl yc] := by rw [← hw3]; exact Blk.new w2 _ _
  have hb3 : Below w2.heap.size w2 w3 := by rw [← hw3]; exact (Below.refl _ _).alloc (Nat.le_refl _) _
  have hX3 := hX2.below hb3 hX2.lt
  have hV3 := hY.below hb3 (Nat.le_refl _)
  have hB3 : Below w.heap.size w w3 := hB2.trans (hb3.mono hB2.size)
  have HW3 := hide hw3
  clear hw3 hX2 hY hB2 hb3
  go_upto_region 6 with (fail)
  rw [HW3.out]
  clear HW3
  generalize hgy : w2.heap.size = gy at *
  clear hgy
  go_wp2_with fail
  refine (RParse_any s w3 (by omega)).mono ?_
  rintro e w4 ⟨rn, ra, rl, rc, rfl, hR, hb4⟩
  have hX4 := hX3.below hb4 hX3.lt
  have hY4 := hY3.below hb4 hY3.lt
  have hV4 := hV3.below hb4 (Nat.le_refl _)
  have hB4 : Below w.heap.size w w4 := hB3.trans (hb4.mono hB3.size)
  clear hX3 hY3 hV3 hB3 hb4
  obtain ⟨w5, hw5⟩ : ∃ w5, w4.alloc (.cells #[.bool rn, .slice ra rl rc] 30) = w5 := ⟨_, rfl⟩
  have hR5 : Blk w5 w4.heap.size 30 #[.bool rn, .slice ra rl rc] := by rw [← hw5]; exact Blk.new w4 _ _
  have hb5 : Below w4.heap.size w4 w5 := by rw [← hw5]; exact (Below.refl _ _).alloc (Nat.le_refl _) _
  have hX5 := hX4.below hb5 hX4.lt
  have hY5 := hY4.below hb5 hY4.lt
  have hV5 := hV4.below hb5 (Nat.le_refl _)
  have hB5 : Below w.heap.size w w5 := hB4.trans (hb5.mono hB4.size)
  have hN5 : okT s = true → NumV w5 (.agg #[.bool rn, .slice ra rl rc]) (numT s) := fun h => (hR h).below hb5 (Nat.le_refl _)
  have HN5 := hide hN5
  have HW5 := hide hw5
  clear hw5 hX4 hY4 hV4 hB4 hb5 hN5 hR
  go_upto_region 7 with (fail)
  rw [HW5.out]
  clear HW5
  generalize hgz : w4.heap.size = gz at *
  clear hgz
  have hd5 := hd1.below hB5 (Nat.le_refl _)
  obtain ⟨x0, x1, -⟩ := hX5.c2
  obtain ⟨y0, y1, -⟩ := hY5.c2
  obtain ⟨z0, z1, -⟩ := hR5.c2
  have hl50 : d1.length ≤ 50 := by omega
  clear hX5 hY5 hR5 hs2 hx2
  have hself : ∀ b : Bool, (b != b) = false := fun b => by cases b <;> rfl
  have HRB : ∃ rb, rb = rightB n1 d1 := ⟨_, rfl⟩
  obtain ⟨rb, hrb⟩ := HRB
  have HRB := hide hrb
  clear hrb
  have t3 := hself rb
  clear hself
  have hBr := Below.refl w5.heap.size w5
  have hBd := hBr.drew
  have hL : ∀ c, Below w5.heap.size w5 c → Calls Tryd.prog 17 #[.agg #[.bool n1, .slice a1 d1.length c1]] c fun e w' => e = .returned (.bool rb) ∧ Below c.heap.size c w' := fun c hc => by
    rw [HRB.out]; exact RRight_any n1 a1 c1 d1 c (hd5.below hc (Nat.le_refl _)) hl1
  have hM : ∀ c, Below w5.heap.size w5 c → Calls Tryd.prog 16 #[.agg #[.bool n1, .slice a1 d1.length c1]] c fun e w' => e = .returned (.bool rb) ∧ Below c.heap.size c w' := fun c hc => by
    rw [HRB.out]; exact Right_any n1 a1 c1 d1 c (hd5.below hc (Nat.le_refl _)) (by omega)
  have HL := hide hL
  have HM := hide hM
  clear hL hM
  have HNZ : Hid (okT s = false → numT s = 0) := hide (fun h => by unfold numT; rw [h]; rfl)
  generalize okT s = ok at *
  go_cut [64] from 35 to 63 (fun v64 wc => v64 = .bool false ∧ Below w5.heap.size w5 wc)
  case first =>
    cases ok with
    | true =>
      have hN := HN5.out rfl
      refine wp_region_held_drew (S := fun w' => w'.cell? ⟨w.heap.size, 0, none⟩ = some (.bool n1) ∧ w'.cell? ⟨w.heap.size, 1, none⟩ = some (.slice a1 d1.length c1) ∧ w'.cell? ⟨gy, 0, none⟩ = some (.bool yn) ∧ w'.cell? ⟨gy, 1, none⟩ = some (.slice ya yl yc) ∧ w'.cell? ⟨gz, 0, none⟩ = some (.bool rn) ∧ w'.cell? ⟨gz, 1, none⟩ = some (.slice ra rl rc) ∧ Below w5.heap.size w5 w') (by kernel_rfl) (⟨x0, x1, y0, y1, z0, z1, hBd⟩) (fun hS => ?_)
      refine wpAnyH_take (i := 0) (oi := { dst := some 35, op := Op.move (Operand.tmp 8), type := 4, pos := "law.go:50", after := #[], guard := none }) (v := ?_) rfl (by kernel_rfl) (by kernel_rfl) (by kernel_rfl) (fun _ _ _ h => h) (Or.inl ⟨by rfl, ?_⟩) hS ?_
      rotate_left
      · (intro w' hSw; (try dsimp only at hSw); go_simp; try with_reducible rfl)
      try simp only [Act.put, List.setIfInBounds_toArray, List.set_cons_zero, List.set_cons_succ]
      refine wpAnyH_take (i := 1) (oi := { dst := some 36, op := Op.move (Operand.tmp 10), type := 4, pos := "law.go:50", after := #[], guard := none }) (v := ?_) rfl (by kernel_rfl) (by kernel_rfl) (by kernel_rfl) (fun _ _ _ h => h) (Or.inl ⟨by rfl, ?_⟩) hS ?_
      rotate_left
      · (intro w' hSw; (try dsimp only at hSw); go_simp; try with_reducible rfl)
      try simp only [Act.put, List.setIfInBounds_toArray, List.set_cons_zero, List.set_cons_succ]
      refine wpAnyH_take (i := 2) (oi := { dst := some 37, op := Op.binOp BinOp.neq 4 (Operand.tmp 35) (Operand.tmp 36) 4, type := 4, pos := "law.go:50", after := #[{ on := 0, ground := Ground.data }, { on := 1, ground := Ground.data }], guard := none }) (v := ?_) rfl (by kernel_rfl) (by kernel_rfl) (by kernel_rfl) (fun _ _ _ h => h) (Or.inl ⟨by rfl, ?_⟩) hS ?_
      rotate_left
      · (intro w' hSw; (try dsimp only at hSw); go_simp; try with_reducible rfl)
      try simp only [Act.put, List.setIfInBounds_toArray, List.set_cons_zero, List.set_cons_succ]
      refine wpAnyH_take (i := 3) (oi := { dst := some 38, op := Op.move (Operand.tmp 37), type := 4, pos := "law.go:50", after := #[{ on := 2, ground := Ground.data }], guard := none }) (v := ?_) rfl (by kernel_rfl) (by kernel_rfl) (by kernel_rfl) (fun _ _ _ h => h) (Or.inl ⟨by rfl, ?_⟩) hS ?_
      rotate_left
      · (intro w' hSw; (try dsimp only at hSw); go_simp; try with_reducible rfl)
      try simp only [Act.put, List.setIfInBounds_toArray, List.set_cons_zero, List.set_cons_succ]
      refine wpAnyH_take (i := 4) (oi := { dst := some 39, op := Op.move (Operand.tmp 8), type := 4, pos := "law.go:50", after := #[{ on := 3, ground := Ground.guard }], guard := some (3, false) }) (v := ?_) rfl (by kernel_rfl) (by kernel_rfl) (by kernel_rfl) (fun _ _ _ h => h) (Or.inl ⟨by rfl, ?_⟩) hS ?_
      rotate_left
      · (intro w' hSw; (try dsimp only at hSw); go_simp; try with_reducible rfl)
      try simp only [Act.put, List.setIfInBounds_toArray, List.set_cons_zero, List.set_cons_succ]
      refine wpAnyH_take (i := 5) (oi := { dst := some 40, op := Op.move (Operand.tmp 39), type := 4, pos := "law.go:50", after := #[{ on := 4, ground := Ground.data }, { on := 3, ground := Ground.chain }, { on := 3, ground := Ground.guard }], guard := some (3, false) }) (v := ?_) rfl (by kernel_rfl) (by kernel_rfl) (by kernel_rfl) (fun _ _ _ h => h) (Or.inl ⟨by rfl, ?_⟩) hS ?_
      rotate_left
      · (intro w' hSw; (try dsimp only at hSw); go_simp; try with_reducible rfl)
      try simp only [Act.put, List.setIfInBounds_toArray, List.set_cons_zero, List.set_cons_succ]
      refine wpAnyH_take (i := 6) (oi := { dst := some 41, op := Op.load 24 (Operand.tmp 7), type := 24, pos := "law.go:50", after := #[{ on := 5, ground := Ground.guard }], guard := some (5, true) }) (v := ?_) rfl (by kernel_rfl) (by kernel_rfl) (by kernel_rfl) (fun _ _ _ h => h) (Or.inl ⟨by rfl, ?_⟩) hS ?_
      rotate_left
      · (intro w' hSw; (try dsimp only at hSw); go_simp; try with_reducible rfl)
      try simp only [Act.put, List.setIfInBounds_toArray, List.set_cons_zero, List.set_cons_succ]
      refine wpAnyH_take (i := 7) (oi := { dst := some 42, op := Op.load 30 (Operand.tmp 9), type := 30, pos := "law.go:50", after := #[{ on := 5, ground := Ground.guard }], guard := some (5, true) }) (v := ?_) rfl (by kernel_rfl) (by kernel_rfl) (by kernel_rfl) (fun _ _ _ h => h) (Or.inl ⟨by rfl, ?_⟩) hS ?_
      rotate_left
      · (intro w' hSw; (try dsimp only at hSw); go_simp; try with_reducible rfl)
      try simp only [Act.put, List.setIfInBounds_toArray, List.set_cons_zero, List.set_cons_succ]
      refine wpAnyH_ready (rs := [8]) (by kernel_rfl) (by simp) ?_
      refine AllReadyH.cons (o := { dst := some 43, op := Op.call { callee := Callee.value (Operand.func 15), args := #[Operand.tmp 42], argTypes := #[30] }, type := 24, pos := "law.go:50", after := #[{ on := 7, ground := Ground.data }, { on := 5, ground := Ground.chain }, { on := 5, ground := Ground.guard }], guard := some (5, true) }) rfl (fun K hK => ?_) AllReadyH.nil
      go_simp
      (go_at_call 15; (with_reducible refine (Form_any _ (hN.below hS.2.2.2.2.2.2 (Nat.le_refl _)) sD).mono ?_); rintro e wn ⟨rF, rfl, hF, hb1⟩)
      go_wp2_with fail
      refine hK.out _ _ (keepT hS hb1) (fun hS => ?_)
      clear hK K hb1
      try simp only [Act.put, List.setIfInBounds_toArray, List.set_cons_zero, List.set_cons_succ]
      refine wpAnyH_ready (rs := [9]) (by kernel_rfl) (by simp) ?_
      refine AllReadyH.cons (o := { dst := some 44, op := Op.call { callee := Callee.value (Operand.func 14), args := #[Operand.tmp 41, Operand.tmp 43], argTypes := #[24, 24] }, type := 4, pos := "law.go:50", after := #[{ on := 6, ground := Ground.data }, { on := 8, ground := Ground.data }, { on := 8, ground := Ground.chain }, { on := 5, ground := Ground.guard }], guard := some (5, true) }) rfl (fun K hK => ?_) AllReadyH.nil
      go_simp
      (go_at_call 14; (with_reducible refine (Same_yes (hV5.below hS.2.2.2.2.2.2 (Nat.le_refl _)) hF rfl sN).mono ?_); rintro e wn ⟨rfl, hb1⟩)
      go_wp2_with fail
      refine hK.out _ _ (keepT hS hb1) (fun hS => ?_)
      clear hK K hb1
      try simp only [Act.put, List.setIfInBounds_toArray, List.set_cons_zero, List.set_cons_succ]
      refine wpAnyH_take (i := 10) (oi := { dst := some 45, op := Op.unOp UnOp.not 4 (Operand.tmp 44), type := 4, pos := "law.go:50", after := #[{ on := 9, ground := Ground.data }, { on := 5, ground := Ground.guard }], guard := some (5, true) }) (v := ?_) rfl (by kernel_rfl) (by kernel_rfl) (by kernel_rfl) (fun _ _ _ h => h) (Or.inl ⟨by rfl, ?_⟩) hS ?_
      rotate_left
      · (intro w' hSw; (try dsimp only at hSw); go_simp; try with_reducible rfl)
      try simp only [Act.put, List.setIfInBounds_toArray, List.set_cons_zero, List.set_cons_succ]
      refine wpAnyH_take (i := 11) (oi := { dst := some 46, op := Op.pick (Operand.tmp 40) (Operand.tmp 45) (Operand.const (Value.bool false)), type := 4, pos := "law.go:50", after := #[{ on := 5, ground := Ground.data }, { on := 10, ground := Ground.data }, { on := 3, ground := Ground.guard }], guard := some (3, false) }) (v := ?_) rfl (by kernel_rfl) (by kernel_rfl) (by kernel_rfl) (fun _ _ _ h => h) (Or.inl ⟨by rfl, ?_⟩) hS ?_
      rotate_left
      · (intro w' hSw; (try dsimp only at hSw); go_simp; try with_reducible rfl)
      try simp only [Act.put, List.setIfInBounds_toArray, List.set_cons_zero, List.set_cons_succ]
      refine wpAnyH_take (i := 12) (oi := { dst := some 47, op := Op.pick (Operand.tmp 38) (Operand.const (Value.bool true)) (Operand.tmp 46), type := 4, pos := "law.go:50", after := #[{ on := 3, ground := Ground.data }, { on := 11, ground := Ground.data }], guard := none }) (v := ?_) rfl (by kernel_rfl) (by kernel_rfl) (by kernel_rfl) (fun _ _ _ h => h) (Or.inl ⟨by rfl, ?_⟩) hS ?_
      rotate_left
      · (intro w' hSw; (try dsimp only at hSw); go_simp; try with_reducible rfl)
      try simp only [Act.put, List.setIfInBounds_toArray, List.set_cons_zero, List.set_cons_succ]
      refine wpAnyH_take (i := 13) (oi := { dst := some 48, op := Op.move (Operand.tmp 47), type := 4, pos := "law.go:50", after := #[{ on := 12, ground := Ground.data }, { on := 9, ground := Ground.chain }], guard := none }) (v := ?_) rfl (by kernel_rfl) (by kernel_rfl) (by kernel_rfl) (fun _ _ _ h => h) (Or.inl ⟨by rfl, ?_⟩) hS ?_
      rotate_left
      · (intro w' hSw; (try dsimp only at hSw); go_simp; try with_reducible rfl)
      try simp only [Act.put, List.setIfInBounds_toArray, List.set_cons_zero, List.set_cons_succ]
      refine wpAnyH_take (i := 14) (oi := { dst := some 49, op := Op.move (Operand.tmp 8), type := 4, pos := "law.go:50", after := #[{ on := 13, ground := Ground.guard }], guard := some (13, false) }) (v := ?_) rfl (by kernel_rfl) (by kernel_rfl) (by kernel_rfl) (fun _ _ _ h => h) (Or.inl ⟨by rfl, ?_⟩) hS ?_
      rotate_left
      · (intro w' hSw; (try dsimp only at hSw); go_simp; try with_reducible rfl)
      try simp only [Act.put, List.setIfInBounds_toArray, List.set_cons_zero, List.set_cons_succ]
      refine wpAnyH_take (i := 15) (oi := { dst := some 50, op := Op.unOp UnOp.not 4 (Operand.tmp 49), type := 4, pos := "law.go:50", after := #[{ on := 14, ground := Ground.data }, { on := 13, ground := Ground.guard }], guard := some (13, false) }) (v := ?_) rfl (by kernel_rfl) (by kernel_rfl) (by kernel_rfl) (fun _ _ _ h => h) (Or.inl ⟨by rfl, ?_⟩) hS ?_
      rotate_left
      · (intro w' hSw; (try dsimp only at hSw); go_simp; try with_reducible rfl)
      try simp only [Act.put, List.setIfInBounds_toArray, List.set_cons_zero, List.set_cons_succ]
      refine wpAnyH_take (i := 16) (oi := { dst := some 51, op := Op.move (Operand.tmp 50), type := 4, pos := "law.go:50", after := #[{ on := 15, ground := Ground.data }, { on := 13, ground := Ground.chain }, { on := 13, ground := Ground.guard }], guard := some (13, false) }) (v := ?_) rfl (by kernel_rfl) (by kernel_rfl) (by kernel_rfl) (fun _ _ _ h => h) (Or.inl ⟨by rfl, ?_⟩) hS ?_
      rotate_left
      · (intro w' hSw; (try dsimp only at hSw); go_simp; try with_reducible rfl)
      try simp only [Act.put, List.setIfInBounds_toArray, List.set_cons_zero, List.set_cons_succ]
      refine wpAnyH_take (i := 17) (oi := { dst := some 52, op := Op.load 24 (Operand.tmp 7), type := 24, pos := "law.go:50", after := #[{ on := 16, ground := Ground.guard }], guard := some (16, true) }) (v := undef) rfl (by kernel_rfl) (by kernel_rfl) (by kernel_rfl) (fun _ _ _ h => h) (Or.inr ⟨by rfl, rfl⟩) hS ?_
      try simp only [Act.put, List.setIfInBounds_toArray, List.set_cons_zero, List.set_cons_succ]
      refine wpAnyH_take (i := 18) (oi := { dst := some 53, op := Op.build 24 #[], type := 24, pos := "law.go:50", after := #[{ on := 16, ground := Ground.guard }], guard := some (16, true) }) (v := undef) rfl (by kernel_rfl) (by kernel_rfl) (by kernel_rfl) (fun _ _ _ h => h) (Or.inr ⟨by rfl, rfl⟩) hS ?_
      try simp only [Act.put, List.setIfInBounds_toArray, List.set_cons_zero, List.set_cons_succ]
      refine wpAnyH_take (i := 19) (oi := { dst := some 54, op := Op.call { callee := Callee.value (Operand.func 14), args := #[Operand.tmp 52, Operand.tmp 53], argTypes := #[24, 24] }, type := 4, pos := "law.go:50", after := #[{ on := 17, ground := Ground.data }, { on := 18, ground := Ground.data }, { on := 16, ground := Ground.chain }, { on := 16, ground := Ground.guard }], guard := some (16, true) }) (v := undef) rfl (by kernel_rfl) (by kernel_rfl) (by kernel_rfl) (fun _ _ _ h => h) (Or.inr ⟨by rfl, rfl⟩) hS ?_
      try simp only [Act.put, List.setIfInBounds_toArray, List.set_cons_zero, List.set_cons_succ]
      refine wpAnyH_take (i := 20) (oi := { dst := some 55, op := Op.unOp UnOp.not 4 (Operand.tmp 54), type := 4, pos := "law.go:50", after := #[{ on := 19, ground := Ground.data }, { on := 16, ground := Ground.guard }], guard := some (16, true) }) (v := undef) rfl (by kernel_rfl) (by kernel_rfl) (by kernel_rfl) (fun _ _ _ h => h) (Or.inr ⟨by rfl, rfl⟩) hS ?_
      try simp only [Act.put, List.setIfInBounds_toArray, List.set_cons_zero, List.set_cons_succ]
      refine wpAnyH_take (i := 21) (oi := { dst := some 56, op := Op.pick (Operand.tmp 51) (Operand.tmp 55) (Operand.const (Value.bool false)), type := 4, pos := "law.go:50", after := #[{ on := 16, ground := Ground.data }, { on := 20, ground := Ground.data }, { on := 13, ground := Ground.guard }], guard := some (13, false) }) (v := ?_) rfl (by kernel_rfl) (by kernel_rfl) (by kernel_rfl) (fun _ _ _ h => h) (Or.inl ⟨by rfl, ?_⟩) hS ?_
      rotate_left
      · (intro w' hSw; (try dsimp only at hSw); go_simp; try with_reducible rfl)
      try simp only [Act.put, List.setIfInBounds_toArray, List.set_cons_zero, List.set_cons_succ]
      refine wpAnyH_take (i := 22) (oi := { dst := some 57, op := Op.pick (Operand.tmp 48) (Operand.const (Value.bool true)) (Operand.tmp 56), type := 4, pos := "law.go:50", after := #[{ on := 13, ground := Ground.data }, { on := 21, ground := Ground.data }], guard := none }) (v := ?_) rfl (by kernel_rfl) (by kernel_rfl) (by kernel_rfl) (fun _ _ _ h => h) (Or.inl ⟨by rfl, ?_⟩) hS ?_
      rotate_left
      · (intro w' hSw; (try dsimp only at hSw); go_simp; try with_reducible rfl)
      try simp only [Act.put, List.setIfInBounds_toArray, List.set_cons_zero, List.set_cons_succ]
      refine wpAnyH_take (i := 23) (oi := { dst := some 58, op := Op.move (Operand.tmp 57), type := 4, pos := "law.go:50", after := #[{ on := 22, ground := Ground.data }, { on := 19, ground := Ground.chain }], guard := none }) (v := ?_) rfl (by kernel_rfl) (by kernel_rfl) (by kernel_rfl) (fun _ _ _ h => h) (Or.inl ⟨by rfl, ?_⟩) hS ?_
      rotate_left
      · (intro w' hSw; (try dsimp only at hSw); go_simp; try with_reducible rfl)
      try simp only [Act.put, List.setIfInBounds_toArray, List.set_cons_zero, List.set_cons_succ]
      refine wpAnyH_take (i := 24) (oi := { dst := some 59, op := Op.load 24 (Operand.tmp 5), type := 24, pos := "law.go:50", after := #[{ on := 23, ground := Ground.guard }], guard := some (23, false) }) (v := ?_) rfl (by kernel_rfl) (by kernel_rfl) (by kernel_rfl) (fun _ _ _ h => h) (Or.inl ⟨by rfl, ?_⟩) hS ?_
      rotate_left
      · (intro w' hSw; (try dsimp only at hSw); go_simp; try with_reducible rfl)
      try simp only [Act.put, List.setIfInBounds_toArray, List.set_cons_zero, List.set_cons_succ]
      refine wpAnyH_take (i := 26) (oi := { dst := some 61, op := Op.load 24 (Operand.tmp 5), type := 24, pos := "law.go:50", after := #[{ on := 23, ground := Ground.guard }], guard := some (23, false) }) (v := ?_) rfl (by kernel_rfl) (by kernel_rfl) (by kernel_rfl) (fun _ _ _ h => h) (Or.inl ⟨by rfl, ?_⟩) hS ?_
      rotate_left
      · (intro w' hSw; (try dsimp only at hSw); go_simp; try with_reducible rfl)
      try simp only [Act.put, List.setIfInBounds_toArray, List.set_cons_zero, List.set_cons_succ]
      refine wpAnyH_ready (rs := [25]) (by kernel_rfl) (by simp) ?_
      refine AllReadyH.cons (o := { dst := some 60, op := Op.call { callee := Callee.value (Operand.func 16), args := #[Operand.tmp 59], argTypes := #[24] }, type := 4, pos := "law.go:50", after := #[{ on := 24, ground := Ground.data }, { on := 23, ground := Ground.chain }, { on := 23, ground := Ground.guard }], guard := some (23, false) }) rfl (fun K hK => ?_) AllReadyH.nil
      go_simp
      (go_at_call 16; (with_reducible refine (HM.out _ hS.2.2.2.2.2.2).mono ?_); rintro e wn ⟨rfl, hb1⟩)
      go_wp2_with fail
      refine hK.out _ _ (keepT hS hb1) (fun hS => ?_)
      clear hK K hb1
      try simp only [Act.put, List.setIfInBounds_toArray, List.set_cons_zero, List.set_cons_succ]
      refine wpAnyH_ready (rs := [27]) (by kernel_rfl) (by simp) ?_
      refine AllReadyH.cons (o := { dst := some 62, op := Op.call { callee := Callee.value (Operand.func 17), args := #[Operand.tmp 61], argTypes := #[24] }, type := 4, pos := "law.go:50", after := #[{ on := 26, ground := Ground.data }, { on := 25, ground := Ground.chain }, { on := 23, ground := Ground.guard }], guard := some (23, false) }) rfl (fun K hK => ?_) AllReadyH.nil
      go_simp
      (go_at_call 17; (with_reducible refine (HL.out _ hS.2.2.2.2.2.2).mono ?_); rintro e wn ⟨rfl, hb1⟩)
      go_wp2_with fail
      refine hK.out _ _ (keepT hS hb1) (fun hS => ?_)
      clear hK K hb1
      try simp only [Act.put, List.setIfInBounds_toArray, List.set_cons_zero, List.set_cons_succ]
      refine wpAnyH_take (i := 28) (oi := { dst := some 63, op := Op.binOp BinOp.neq 4 (Operand.tmp 60) (Operand.tmp 62) 4, type := 4, pos := "law.go:50", after := #[{ on := 25, ground := Ground.data }, { on := 27, ground := Ground.data }, { on := 23, ground := Ground.guard }], guard := some (23, false) }) (v := ?_) rfl (by kernel_rfl) (by kernel_rfl) (by kernel_rfl) (fun _ _ _ h => h) (Or.inl ⟨by rfl, ?_⟩) hS ?_
      rotate_left
      · (intro w' hSw; (try dsimp only at hSw); go_simp; try with_reducible rfl)
      try simp only [Act.put, List.setIfInBounds_toArray, List.set_cons_zero, List.set_cons_succ]
      refine wpAnyH_take (i := 29) (oi := { dst := some 64, op := Op.pick (Operand.tmp 58) (Operand.const (Value.bool true)) (Operand.tmp 63), type := 4, pos := "law.go:50", after := #[{ on := 23, ground := Ground.data }, { on := 28, ground := Ground.data }], guard := none }) (v := ?_) rfl (by kernel_rfl) (by kernel_rfl) (by kernel_rfl) (fun _ _ _ h => h) (Or.inl ⟨by rfl, ?_⟩) hS ?_
      rotate_left
      · (intro w' hSw; (try dsimp only at hSw); go_simp; try with_reducible rfl)
      try simp only [Act.put, List.setIfInBounds_toArray, List.set_cons_zero, List.set_cons_succ]
      refine wpAnyH_done (by kernel_rfl) ?_ _
      go_wp2_with fail
      go_meet
      exact ⟨rfl, hS.2.2.2.2.2.2⟩
    | false =>
      have HZ := hide (HNZ.out rfl)
      refine wp_region_held_drew (S := fun w' => w'.cell? ⟨w.heap.size, 0, none⟩ = some (.bool n1) ∧ w'.cell? ⟨w.heap.size, 1, none⟩ = some (.slice a1 d1.length c1) ∧ w'.cell? ⟨gy, 0, none⟩ = some (.bool yn) ∧ w'.cell? ⟨gy, 1, none⟩ = some (.slice ya yl yc) ∧ w'.cell? ⟨gz, 0, none⟩ = some (.bool rn) ∧ w'.cell? ⟨gz, 1, none⟩ = some (.slice ra rl rc) ∧ Below w5.heap.size w5 w') (by kernel_rfl) (⟨x0, x1, y0, y1, z0, z1, hBd⟩) (fun hS => ?_)
      refine wpAnyH_take (i := 0) (oi := { dst := some 35, op := Op.move (Operand.tmp 8), type := 4, pos := "law.go:50", after := #[], guard := none }) (v := ?_) rfl (by kernel_rfl) (by kernel_rfl) (by kernel_rfl) (fun _ _ _ h => h) (Or.inl ⟨by rfl, ?_⟩) hS ?_
      rotate_left
      · (intro w' hSw; (try dsimp only at hSw); go_simp; try with_reducible rfl)
      try simp only [Act.put, List.setIfInBounds_toArray, List.set_cons_zero, List.set_cons_succ]
      refine wpAnyH_take (i := 1) (oi := { dst := some 36, op := Op.move (Operand.tmp 10), type := 4, pos := "law.go:50", after := #[], guard := none }) (v := ?_) rfl (by kernel_rfl) (by kernel_rfl) (by kernel_rfl) (fun _ _ _ h => h) (Or.inl ⟨by rfl, ?_⟩) hS ?_
      rotate_left
      · (intro w' hSw; (try dsimp only at hSw); go_simp; try with_reducible rfl)
      try simp only [Act.put, List.setIfInBounds_toArray, List.set_cons_zero, List.set_cons_succ]
      refine wpAnyH_take (i := 2) (oi := { dst := some 37, op := Op.binOp BinOp.neq 4 (Operand.tmp 35) (Operand.tmp 36) 4, type := 4, pos := "law.go:50", after := #[{ on := 0, ground := Ground.data }, { on := 1, ground := Ground.data }], guard := none }) (v := ?_) rfl (by kernel_rfl) (by kernel_rfl) (by kernel_rfl) (fun _ _ _ h => h) (Or.inl ⟨by rfl, ?_⟩) hS ?_
      rotate_left
      · (intro w' hSw; (try dsimp only at hSw); go_simp; try with_reducible rfl)
      try simp only [Act.put, List.setIfInBounds_toArray, List.set_cons_zero, List.set_cons_succ]
      refine wpAnyH_take (i := 3) (oi := { dst := some 38, op := Op.move (Operand.tmp 37), type := 4, pos := "law.go:50", after := #[{ on := 2, ground := Ground.data }], guard := none }) (v := ?_) rfl (by kernel_rfl) (by kernel_rfl) (by kernel_rfl) (fun _ _ _ h => h) (Or.inl ⟨by rfl, ?_⟩) hS ?_
      rotate_left
      · (intro w' hSw; (try dsimp only at hSw); go_simp; try with_reducible rfl)
      try simp only [Act.put, List.setIfInBounds_toArray, List.set_cons_zero, List.set_cons_succ]
      refine wpAnyH_take (i := 4) (oi := { dst := some 39, op := Op.move (Operand.tmp 8), type := 4, pos := "law.go:50", after := #[{ on := 3, ground := Ground.guard }], guard := some (3, false) }) (v := ?_) rfl (by kernel_rfl) (by kernel_rfl) (by kernel_rfl) (fun _ _ _ h => h) (Or.inl ⟨by rfl, ?_⟩) hS ?_
      rotate_left
      · (intro w' hSw; (try dsimp only at hSw); go_simp; try with_reducible rfl)
      try simp only [Act.put, List.setIfInBounds_toArray, List.set_cons_zero, List.set_cons_succ]
      refine wpAnyH_take (i := 5) (oi := { dst := some 40, op := Op.move (Operand.tmp 39), type := 4, pos := "law.go:50", after := #[{ on := 4, ground := Ground.data }, { on := 3, ground := Ground.chain }, { on := 3, ground := Ground.guard }], guard := some (3, false) }) (v := ?_) rfl (by kernel_rfl) (by kernel_rfl) (by kernel_rfl) (fun _ _ _ h => h) (Or.inl ⟨by rfl, ?_⟩) hS ?_
      rotate_left
      · (intro w' hSw; (try dsimp only at hSw); go_simp; try with_reducible rfl)
      try simp only [Act.put, List.setIfInBounds_toArray, List.set_cons_zero, List.set_cons_succ]
      refine wpAnyH_take (i := 6) (oi := { dst := some 41, op := Op.load 24 (Operand.tmp 7), type := 24, pos := "law.go:50", after := #[{ on := 5, ground := Ground.guard }], guard := some (5, true) }) (v := undef) rfl (by kernel_rfl) (by kernel_rfl) (by kernel_rfl) (fun _ _ _ h => h) (Or.inr ⟨by rfl, rfl⟩) hS ?_
      try simp only [Act.put, List.setIfInBounds_toArray, List.set_cons_zero, List.set_cons_succ]
      refine wpAnyH_take (i := 7) (oi := { dst := some 42, op := Op.load 30 (Operand.tmp 9), type := 30, pos := "law.go:50", after := #[{ on := 5, ground := Ground.guard }], guard := some (5, true) }) (v := undef) rfl (by kernel_rfl) (by kernel_rfl) (by kernel_rfl) (fun _ _ _ h => h) (Or.inr ⟨by rfl, rfl⟩) hS ?_
      try simp only [Act.put, List.setIfInBounds_toArray, List.set_cons_zero, List.set_cons_succ]
      refine wpAnyH_take (i := 8) (oi := { dst := some 43, op := Op.call { callee := Callee.value (Operand.func 15), args := #[Operand.tmp 42], argTypes := #[30] }, type := 24, pos := "law.go:50", after := #[{ on := 7, ground := Ground.data }, { on := 5, ground := Ground.chain }, { on := 5, ground := Ground.guard }], guard := some (5, true) }) (v := undef) rfl (by kernel_rfl) (by kernel_rfl) (by kernel_rfl) (fun _ _ _ h => h) (Or.inr ⟨by rfl, rfl⟩) hS ?_
      try simp only [Act.put, List.setIfInBounds_toArray, List.set_cons_zero, List.set_cons_succ]
      refine wpAnyH_take (i := 9) (oi := { dst := some 44, op := Op.call { callee := Callee.value (Operand.func 14), args := #[Operand.tmp 41, Operand.tmp 43], argTypes := #[24, 24] }, type := 4, pos := "law.go:50", after := #[{ on := 6, ground := Ground.data }, { on := 8, ground := Ground.data }, { on := 8, ground := Ground.chain }, { on := 5, ground := Ground.guard }], guard := some (5, true) }) (v := undef) rfl (by kernel_rfl) (by kernel_rfl) (by kernel_rfl) (fun _ _ _ h => h) (Or.inr ⟨by rfl, rfl⟩) hS ?_
      try simp only [Act.put, List.setIfInBounds_toArray, List.set_cons_zero, List.set_cons_succ]
      refine wpAnyH_take (i := 10) (oi := { dst := some 45, op := Op.unOp UnOp.not 4 (Operand.tmp 44), type := 4, pos := "law.go:50", after := #[{ on := 9, ground := Ground.data }, { on := 5, ground := Ground.guard }], guard := some (5, true) }) (v := undef) rfl (by kernel_rfl) (by kernel_rfl) (by kernel_rfl) (fun _ _ _ h => h) (Or.inr ⟨by rfl, rfl⟩) hS ?_
      try simp only [Act.put, List.setIfInBounds_toArray, List.set_cons_zero, List.set_cons_succ]
      refine wpAnyH_take (i := 11) (oi := { dst := some 46, op := Op.pick (Operand.tmp 40) (Operand.tmp 45) (Operand.const (Value.bool false)), type := 4, pos := "law.go:50", after := #[{ on := 5, ground := Ground.data }, { on := 10, ground := Ground.data }, { on := 3, ground := Ground.guard }], guard := some (3, false) }) (v := ?_) rfl (by kernel_rfl) (by kernel_rfl) (by kernel_rfl) (fun _ _ _ h => h) (Or.inl ⟨by rfl, ?_⟩) hS ?_
      rotate_left
      · (intro w' hSw; (try dsimp only at hSw); go_simp; try with_reducible rfl)
      try simp only [Act.put, List.setIfInBounds_toArray, List.set_cons_zero, List.set_cons_succ]
      refine wpAnyH_take (i := 12) (oi := { dst := some 47, op := Op.pick (Operand.tmp 38) (Operand.const (Value.bool true)) (Operand.tmp 46), type := 4, pos := "law.go:50", after := #[{ on := 3, ground := Ground.data }, { on := 11, ground := Ground.data }], guard := none }) (v := ?_) rfl (by kernel_rfl) (by kernel_rfl) (by kernel_rfl) (fun _ _ _ h => h) (Or.inl ⟨by rfl, ?_⟩) hS ?_
      rotate_left
      · (intro w' hSw; (try dsimp only at hSw); go_simp; try with_reducible rfl)
      try simp only [Act.put, List.setIfInBounds_toArray, List.set_cons_zero, List.set_cons_succ]
      refine wpAnyH_take (i := 13) (oi := { dst := some 48, op := Op.move (Operand.tmp 47), type := 4, pos := "law.go:50", after := #[{ on := 12, ground := Ground.data }, { on := 9, ground := Ground.chain }], guard := none }) (v := ?_) rfl (by kernel_rfl) (by kernel_rfl) (by kernel_rfl) (fun _ _ _ h => h) (Or.inl ⟨by rfl, ?_⟩) hS ?_
      rotate_left
      · (intro w' hSw; (try dsimp only at hSw); go_simp; try with_reducible rfl)
      try simp only [Act.put, List.setIfInBounds_toArray, List.set_cons_zero, List.set_cons_succ]
      refine wpAnyH_take (i := 14) (oi := { dst := some 49, op := Op.move (Operand.tmp 8), type := 4, pos := "law.go:50", after := #[{ on := 13, ground := Ground.guard }], guard := some (13, false) }) (v := ?_) rfl (by kernel_rfl) (by kernel_rfl) (by kernel_rfl) (fun _ _ _ h => h) (Or.inl ⟨by rfl, ?_⟩) hS ?_
      rotate_left
      · (intro w' hSw; (try dsimp only at hSw); go_simp; try with_reducible rfl)
      try simp only [Act.put, List.setIfInBounds_toArray, List.set_cons_zero, List.set_cons_succ]
      refine wpAnyH_take (i := 15) (oi := { dst := some 50, op := Op.unOp UnOp.not 4 (Operand.tmp 49), type := 4, pos := "law.go:50", after := #[{ on := 14, ground := Ground.data }, { on := 13, ground := Ground.guard }], guard := some (13, false) }) (v := ?_) rfl (by kernel_rfl) (by kernel_rfl) (by kernel_rfl) (fun _ _ _ h => h) (Or.inl ⟨by rfl, ?_⟩) hS ?_
      rotate_left
      · (intro w' hSw; (try dsimp only at hSw); go_simp; try with_reducible rfl)
      try simp only [Act.put, List.setIfInBounds_toArray, List.set_cons_zero, List.set_cons_succ]
      refine wpAnyH_take (i := 16) (oi := { dst := some 51, op := Op.move (Operand.tmp 50), type := 4, pos := "law.go:50", after := #[{ on := 15, ground := Ground.data }, { on := 13, ground := Ground.chain }, { on := 13, ground := Ground.guard }], guard := some (13, false) }) (v := ?_) rfl (by kernel_rfl) (by kernel_rfl) (by kernel_rfl) (fun _ _ _ h => h) (Or.inl ⟨by rfl, ?_⟩) hS ?_
      rotate_left
      · (intro w' hSw; (try dsimp only at hSw); go_simp; try with_reducible rfl)
      try simp only [Act.put, List.setIfInBounds_toArray, List.set_cons_zero, List.set_cons_succ]
      refine wpAnyH_take (i := 17) (oi := { dst := some 52, op := Op.load 24 (Operand.tmp 7), type := 24, pos := "law.go:50", after := #[{ on := 16, ground := Ground.guard }], guard := some (16, true) }) (v := ?_) rfl (by kernel_rfl) (by kernel_rfl) (by kernel_rfl) (fun _ _ _ h => h) (Or.inl ⟨by rfl, ?_⟩) hS ?_
      rotate_left
      · (intro w' hSw; (try dsimp only at hSw); go_simp; try with_reducible rfl)
      try simp only [Act.put, List.setIfInBounds_toArray, List.set_cons_zero, List.set_cons_succ]
      refine wpAnyH_take (i := 18) (oi := { dst := some 53, op := Op.build 24 #[], type := 24, pos := "law.go:50", after := #[{ on := 16, ground := Ground.guard }], guard := some (16, true) }) (v := ?_) rfl (by kernel_rfl) (by kernel_rfl) (by kernel_rfl) (fun _ _ _ h => h) (Or.inl ⟨by rfl, ?_⟩) hS ?_
      rotate_left
      · (intro w' hSw; (try dsimp only at hSw); go_simp; try with_reducible rfl)
      try simp only [Act.put, List.setIfInBounds_toArray, List.set_cons_zero, List.set_cons_succ]
      refine wpAnyH_ready (rs := [19]) (by kernel_rfl) (by simp) ?_
      refine AllReadyH.cons (o := { dst := some 54, op := Op.call { callee := Callee.value (Operand.func 14), args := #[Operand.tmp 52, Operand.tmp 53], argTypes := #[24, 24] }, type := 4, pos := "law.go:50", after := #[{ on := 17, ground := Ground.data }, { on := 18, ground := Ground.data }, { on := 16, ground := Ground.chain }, { on := 16, ground := Ground.guard }], guard := some (16, true) }) rfl (fun K hK => ?_) AllReadyH.nil
      go_simp
      (go_at_call 14; (with_reducible refine (Same_yes (hV5.below hS.2.2.2.2.2.2 (Nat.le_refl _)) (IntV.zero _) HZ.out sN).mono ?_); rintro e wn ⟨rfl, hb1⟩)
      go_wp2_with fail
      refine hK.out _ _ (keepT hS hb1) (fun hS => ?_)
      clear hK K hb1
      try simp only [Act.put, List.setIfInBounds_toArray, List.set_cons_zero, List.set_cons_succ]
      refine wpAnyH_take (i := 20) (oi := { dst := some 55, op := Op.unOp UnOp.not 4 (Operand.tmp 54), type := 4, pos := "law.go:50", after := #[{ on := 19, ground := Ground.data }, { on := 16, ground := Ground.guard }], guard := some (16, true) }) (v := ?_) rfl (by kernel_rfl) (by kernel_rfl) (by kernel_rfl) (fun _ _ _ h => h) (Or.inl ⟨by rfl, ?_⟩) hS ?_
      rotate_left
      · (intro w' hSw; (try dsimp only at hSw); go_simp; try with_reducible rfl)
      try simp only [Act.put, List.setIfInBounds_toArray, List.set_cons_zero, List.set_cons_succ]
      refine wpAnyH_take (i := 21) (oi := { dst := some 56, op := Op.pick (Operand.tmp 51) (Operand.tmp 55) (Operand.const (Value.bool false)), type := 4, pos := "law.go:50", after := #[{ on := 16, ground := Ground.data }, { on := 20, ground := Ground.data }, { on := 13, ground := Ground.guard }], guard := some (13, false) }) (v := ?_) rfl (by kernel_rfl) (by kernel_rfl) (by kernel_rfl) (fun _ _ _ h => h) (Or.inl ⟨by rfl, ?_⟩) hS ?_
      rotate_left
      · (intro w' hSw; (try dsimp only at hSw); go_simp; try with_reducible rfl)
      try simp only [Act.put, List.setIfInBounds_toArray, List.set_cons_zero, List.set_cons_succ]
      refine wpAnyH_take (i := 22) (oi := { dst := some 57, op := Op.pick (Operand.tmp 48) (Operand.const (Value.bool true)) (Operand.tmp 56), type := 4, pos := "law.go:50", after := #[{ on := 13, ground := Ground.data }, { on := 21, ground := Ground.data }], guard := none }) (v := ?_) rfl (by kernel_rfl) (by kernel_rfl) (by kernel_rfl) (fun _ _ _ h => h) (Or.inl ⟨by rfl, ?_⟩) hS ?_
      rotate_left
      · (intro w' hSw; (try dsimp only at hSw); go_simp; try with_reducible rfl)
      try simp only [Act.put, List.setIfInBounds_toArray, List.set_cons_zero, List.set_cons_succ]
      refine wpAnyH_take (i := 23) (oi := { dst := some 58, op := Op.move (Operand.tmp 57), type := 4, pos := "law.go:50", after := #[{ on := 22, ground := Ground.data }, { on := 19, ground := Ground.chain }], guard := none }) (v := ?_) rfl (by kernel_rfl) (by kernel_rfl) (by kernel_rfl) (fun _ _ _ h => h) (Or.inl ⟨by rfl, ?_⟩) hS ?_
      rotate_left
      · (intro w' hSw; (try dsimp only at hSw); go_simp; try with_reducible rfl)
      try simp only [Act.put, List.setIfInBounds_toArray, List.set_cons_zero, List.set_cons_succ]
      refine wpAnyH_take (i := 24) (oi := { dst := some 59, op := Op.load 24 (Operand.tmp 5), type := 24, pos := "law.go:50", after := #[{ on := 23, ground := Ground.guard }], guard := some (23, false) }) (v := ?_) rfl (by kernel_rfl) (by kernel_rfl) (by kernel_rfl) (fun _ _ _ h => h) (Or.inl ⟨by rfl, ?_⟩) hS ?_
      rotate_left
      · (intro w' hSw; (try dsimp only at hSw); go_simp; try with_reducible rfl)
      try simp only [Act.put, List.setIfInBounds_toArray, List.set_cons_zero, List.set_cons_succ]
      refine wpAnyH_take (i := 26) (oi := { dst := some 61, op := Op.load 24 (Operand.tmp 5), type := 24, pos := "law.go:50", after := #[{ on := 23, ground := Ground.guard }], guard := some (23, false) }) (v := ?_) rfl (by kernel_rfl) (by kernel_rfl) (by kernel_rfl) (fun _ _ _ h => h) (Or.inl ⟨by rfl, ?_⟩) hS ?_
      rotate_left
      · (intro w' hSw; (try dsimp only at hSw); go_simp; try with_reducible rfl)
      try simp only [Act.put, List.setIfInBounds_toArray, List.set_cons_zero, List.set_cons_succ]
      refine wpAnyH_ready (rs := [25]) (by kernel_rfl) (by simp) ?_
      refine AllReadyH.cons (o := { dst := some 60, op := Op.call { callee := Callee.value (Operand.func 16), args := #[Operand.tmp 59], argTypes := #[24] }, type := 4, pos := "law.go:50", after := #[{ on := 24, ground := Ground.data }, { on := 23, ground := Ground.chain }, { on := 23, ground := Ground.guard }], guard := some (23, false) }) rfl (fun K hK => ?_) AllReadyH.nil
      go_simp
      (go_at_call 16; (with_reducible refine (HM.out _ hS.2.2.2.2.2.2).mono ?_); rintro e wn ⟨rfl, hb1⟩)
      go_wp2_with fail
      refine hK.out _ _ (keepT hS hb1) (fun hS => ?_)
      clear hK K hb1
      try simp only [Act.put, List.setIfInBounds_toArray, List.set_cons_zero, List.set_cons_succ]
      refine wpAnyH_ready (rs := [27]) (by kernel_rfl) (by simp) ?_
      refine AllReadyH.cons (o := { dst := some 62, op := Op.call { callee := Callee.value (Operand.func 17), args := #[Operand.tmp 61], argTypes := #[24] }, type := 4, pos := "law.go:50", after := #[{ on := 26, ground := Ground.data }, { on := 25, ground := Ground.chain }, { on := 23, ground := Ground.guard }], guard := some (23, false) }) rfl (fun K hK => ?_) AllReadyH.nil
      go_simp
      (go_at_call 17; (with_reducible refine (HL.out _ hS.2.2.2.2.2.2).mono ?_); rintro e wn ⟨rfl, hb1⟩)
      go_wp2_with fail
      refine hK.out _ _ (keepT hS hb1) (fun hS => ?_)
      clear hK K hb1
      try simp only [Act.put, List.setIfInBounds_toArray, List.set_cons_zero, List.set_cons_succ]
      refine wpAnyH_take (i := 28) (oi := { dst := some 63, op := Op.binOp BinOp.neq 4 (Operand.tmp 60) (Operand.tmp 62) 4, type := 4, pos := "law.go:50", after := #[{ on := 25, ground := Ground.data }, { on := 27, ground := Ground.data }, { on := 23, ground := Ground.guard }], guard := some (23, false) }) (v := ?_) rfl (by kernel_rfl) (by kernel_rfl) (by kernel_rfl) (fun _ _ _ h => h) (Or.inl ⟨by rfl, ?_⟩) hS ?_
      rotate_left
      · (intro w' hSw; (try dsimp only at hSw); go_simp; try with_reducible rfl)
      try simp only [Act.put, List.setIfInBounds_toArray, List.set_cons_zero, List.set_cons_succ]
      refine wpAnyH_take (i := 29) (oi := { dst := some 64, op := Op.pick (Operand.tmp 58) (Operand.const (Value.bool true)) (Operand.tmp 63), type := 4, pos := "law.go:50", after := #[{ on := 23, ground := Ground.data }, { on := 28, ground := Ground.data }], guard := none }) (v := ?_) rfl (by kernel_rfl) (by kernel_rfl) (by kernel_rfl) (fun _ _ _ h => h) (Or.inl ⟨by rfl, ?_⟩) hS ?_
      rotate_left
      · (intro w' hSw; (try dsimp only at hSw); go_simp; try with_reducible rfl)
      try simp only [Act.put, List.setIfInBounds_toArray, List.set_cons_zero, List.set_cons_succ]
      refine wpAnyH_done (by kernel_rfl) ?_ _
      go_wp2_with fail
      go_meet
      exact ⟨rfl, hS.2.2.2.2.2.2⟩
  case rest =>
    obtain ⟨rfl, bw⟩ := hcut
    clear x0 x1 y0 y1 z0 z1 HL HM HRB t3 hV5 HN5 hBr hBd sN sD hd5
    have hB6 : Below w.heap.size w wc := hB5.trans (bw.mono hB5.size)
    clear bw hB5
    go_wp2_with fail
    refine (Of_any m wc hm1 hm2).mono ?_
    rintro e w7 ⟨rz, rfl, hZ, hb7⟩
    obtain ⟨zn, za, zl, zc, rfl⟩ := hZ.parts
    have hB7 : Below w.heap.size w w7 := hB6.trans (hb7.mono hB6.size)
    obtain ⟨w8, hw8⟩ : ∃ w8, w7.alloc (.cells #[.bool zn, .slice za zl zc] 24) = w8 := ⟨_, rfl⟩
    have hZ8 : Blk w8 w7.heap.size 24 #[.bool zn, .slice za zl zc] := by rw [← hw8]; exact Blk.new w7 _ _
    have hb8 : Below w7.heap.size w7 w8 := by rw [← hw8]; exact (Below.refl _ _).alloc (Nat.le_refl _) _
    have hV8 := hZ.below hb8 (Nat.le_refl _)
    have hB8 : Below w.heap.size w w8 := hB7.trans (hb8.mono hB7.size)
    have HW8 := hide hw8
    clear hw8 hZ hB6 hB7 hb7 hb8
    go_upto_region 10 with (fail)
    rw [HW8.out]
    clear HW8
    generalize hgz : w7.heap.size = g at *
    clear hgz
    obtain ⟨z0, z1, -⟩ := hZ8.c2
    clear hZ8
    have hm19 : m.natAbs < 10 ^ 19 := by
      have : (10 : Nat) ^ 19 = 10000000000000000000 := rfl
      omega
    have sN : Sm m := by have := ten_BB hm19; unfold Sm len; omega
    have sD : dlen m ≤ 100000000000 := by have := ten_le hm19; unfold dlen; omega
    clear hm19
    have hBd := (Below.refl w8.heap.size w8).drew
    go_cut [81] from 67 to 80 (fun v81 wc => v81 = .bool false ∧ wc.cell? ⟨g, 0, none⟩ = some (.bool zn) ∧ wc.cell? ⟨g, 1, none⟩ = some (.slice za zl zc) ∧ Below w8.heap.size w8 wc)
    case first =>
      by_cases hlo : -4611686018427387904 < m
      · have t1 : decide (-4611686018427387904 < m) = true := decide_eq_true hlo
        have hm3 : -9223372036854775807 ≤ m := by omega
        clear hlo
        refine wp_region_held_drew (S := fun w' => w'.cell? ⟨g, 0, none⟩ = some (.bool zn) ∧ w'.cell? ⟨g, 1, none⟩ = some (.slice za zl zc) ∧ Below w8.heap.size w8 w') (by kernel_rfl) (⟨z0, z1, hBd⟩) (fun hS => ?_)
        refine wpAnyH_take (i := 0) (oi := { dst := some 67, op := Op.load 24 (Operand.tmp 11), type := 24, pos := "law.go:54", after := #[], guard := none }) (v := ?_) rfl (by kernel_rfl) (by kernel_rfl) (by kernel_rfl) (fun _ _ _ h => h) (Or.inl ⟨by rfl, ?_⟩) hS ?_
        rotate_left
        · (intro w' hSw; (try dsimp only at hSw); go_simp; try with_reducible rfl)
        try simp only [Act.put, List.setIfInBounds_toArray, List.set_cons_zero, List.set_cons_succ]
        refine wpAnyH_ready (rs := [1]) (by kernel_rfl) (by simp) ?_
        refine AllReadyH.cons (o := { dst := some 68, op := Op.call { callee := Callee.value (Operand.func 17), args := #[Operand.tmp 67], argTypes := #[24] }, type := 4, pos := "law.go:54", after := #[{ on := 0, ground := Ground.data }], guard := none }) rfl (fun K hK => ?_) AllReadyH.nil
        go_simp
        (go_at_call 17; (with_reducible refine (RRight_int (hV8.below hS.2.2 (Nat.le_refl _)) sN).mono ?_); rintro e wn ⟨rfl, hb1⟩)
        go_wp2_with fail
        refine hK.out _ _ (keepD hS hb1) (fun hS => ?_)
        clear hK K hb1
        try simp only [Act.put, List.setIfInBounds_toArray, List.set_cons_zero, List.set_cons_succ]
        refine wpAnyH_take (i := 2) (oi := { dst := some 69, op := Op.unOp UnOp.not 4 (Operand.tmp 68), type := 4, pos := "law.go:54", after := #[{ on := 1, ground := Ground.data }], guard := none }) (v := ?_) rfl (by kernel_rfl) (by kernel_rfl) (by kernel_rfl) (fun _ _ _ h => h) (Or.inl ⟨by rfl, ?_⟩) hS ?_
        rotate_left
        · (intro w' hSw; (try dsimp only at hSw); go_simp; try with_reducible rfl)
        try simp only [Act.put, List.setIfInBounds_toArray, List.set_cons_zero, List.set_cons_succ]
        refine wpAnyH_take (i := 3) (oi := { dst := some 70, op := Op.move (Operand.tmp 69), type := 4, pos := "law.go:54", after := #[{ on := 2, ground := Ground.data }, { on := 1, ground := Ground.chain }], guard := none }) (v := ?_) rfl (by kernel_rfl) (by kernel_rfl) (by kernel_rfl) (fun _ _ _ h => h) (Or.inl ⟨by rfl, ?_⟩) hS ?_
        rotate_left
        · (intro w' hSw; (try dsimp only at hSw); go_simp; try with_reducible rfl)
        try simp only [Act.put, List.setIfInBounds_toArray, List.set_cons_zero, List.set_cons_succ]
        refine wpAnyH_take (i := 4) (oi := { dst := some 71, op := Op.move (Operand.tmp 1), type := 2, pos := "law.go:54", after := #[{ on := 3, ground := Ground.guard }], guard := some (3, false) }) (v := ?_) rfl (by kernel_rfl) (by kernel_rfl) (by kernel_rfl) (fun _ _ _ h => h) (Or.inl ⟨by rfl, ?_⟩) hS ?_
        rotate_left
        · (intro w' hSw; (try dsimp only at hSw); go_simp; try with_reducible rfl)
        try simp only [Act.put, List.setIfInBounds_toArray, List.set_cons_zero, List.set_cons_succ]
        refine wpAnyH_take (i := 5) (oi := { dst := some 72, op := Op.binOp BinOp.gtr 2 (Operand.tmp 71) (Operand.const (Value.int IntKind.i64 (-4611686018427387904))) 2, type := 4, pos := "law.go:54", after := #[{ on := 4, ground := Ground.data }, { on := 3, ground := Ground.guard }], guard := some (3, false) }) (v := ?_) rfl (by kernel_rfl) (by kernel_rfl) (by kernel_rfl) (fun _ _ _ h => h) (Or.inl ⟨by rfl, ?_⟩) hS ?_
        rotate_left
        · (intro w' hSw; (try dsimp only at hSw); go_simp; try with_reducible rfl)
        try simp only [Act.put, List.setIfInBounds_toArray, List.set_cons_zero, List.set_cons_succ]
        refine wpAnyH_take (i := 6) (oi := { dst := some 73, op := Op.move (Operand.tmp 72), type := 4, pos := "law.go:54", after := #[{ on := 5, ground := Ground.data }, { on := 3, ground := Ground.chain }, { on := 3, ground := Ground.guard }], guard := some (3, false) }) (v := ?_) rfl (by kernel_rfl) (by kernel_rfl) (by kernel_rfl) (fun _ _ _ h => h) (Or.inl ⟨by rfl, ?_⟩) hS ?_
        rotate_left
        · (intro w' hSw; (try dsimp only at hSw); go_simp; try with_reducible rfl)
        try simp only [Act.put, List.setIfInBounds_toArray, List.set_cons_zero, List.set_cons_succ]
        refine wpAnyH_take (i := 7) (oi := { dst := some 74, op := Op.load 24 (Operand.tmp 11), type := 24, pos := "law.go:54", after := #[{ on := 6, ground := Ground.guard }], guard := some (6, true) }) (v := ?_) rfl (by kernel_rfl) (by kernel_rfl) (by kernel_rfl) (fun _ _ _ h => h) (Or.inl ⟨by rfl, ?_⟩) hS ?_
        rotate_left
        · (intro w' hSw; (try dsimp only at hSw); go_simp; try with_reducible rfl)
        try simp only [Act.put, List.setIfInBounds_toArray, List.set_cons_zero, List.set_cons_succ]
        refine wpAnyH_take (i := 8) (oi := { dst := some 75, op := Op.move (Operand.tmp 1), type := 2, pos := "law.go:54", after := #[{ on := 6, ground := Ground.guard }], guard := some (6, true) }) (v := ?_) rfl (by kernel_rfl) (by kernel_rfl) (by kernel_rfl) (fun _ _ _ h => h) (Or.inl ⟨by rfl, ?_⟩) hS ?_
        rotate_left
        · (intro w' hSw; (try dsimp only at hSw); go_simp; try with_reducible rfl)
        try simp only [Act.put, List.setIfInBounds_toArray, List.set_cons_zero, List.set_cons_succ]
        refine wpAnyH_ready (rs := [9]) (by kernel_rfl) (by simp) ?_
        refine AllReadyH.cons (o := { dst := some 76, op := Op.call { callee := Callee.value (Operand.func 19), args := #[Operand.tmp 75], argTypes := #[3] }, type := 30, pos := "law.go:54", after := #[{ on := 8, ground := Ground.data }, { on := 6, ground := Ground.chain }, { on := 6, ground := Ground.guard }], guard := some (6, true) }) rfl (fun K hK => ?_) AllReadyH.nil
        go_simp
        (go_at_call 19; (with_reducible refine (RInt_any m _ hm3 hm2).mono ?_); rintro e wn ⟨rI, rfl, hI, hb1⟩)
        go_wp2_with fail
        refine hK.out _ _ (keepD hS hb1) (fun hS => ?_)
        clear hK K hb1
        try simp only [Act.put, List.setIfInBounds_toArray, List.set_cons_zero, List.set_cons_succ]
        refine wpAnyH_ready (rs := [10]) (by kernel_rfl) (by simp) ?_
        refine AllReadyH.cons (o := { dst := some 77, op := Op.call { callee := Callee.value (Operand.func 15), args := #[Operand.tmp 76], argTypes := #[30] }, type := 24, pos := "law.go:54", after := #[{ on := 9, ground := Ground.data }, { on := 9, ground := Ground.chain }, { on := 6, ground := Ground.guard }], guard := some (6, true) }) rfl (fun K hK => ?_) AllReadyH.nil
        go_simp
        (go_at_call 15; (with_reducible refine (Form_any _ hI sD).mono ?_); rintro e wn ⟨rF, rfl, hF, hb1⟩)
        go_wp2_with fail
        refine hK.out _ _ (keepD hS hb1) (fun hS => ?_)
        clear hK K hb1
        try simp only [Act.put, List.setIfInBounds_toArray, List.set_cons_zero, List.set_cons_succ]
        refine wpAnyH_ready (rs := [11]) (by kernel_rfl) (by simp) ?_
        refine AllReadyH.cons (o := { dst := some 78, op := Op.call { callee := Callee.value (Operand.func 14), args := #[Operand.tmp 74, Operand.tmp 77], argTypes := #[24, 24] }, type := 4, pos := "law.go:54", after := #[{ on := 7, ground := Ground.data }, { on := 10, ground := Ground.data }, { on := 10, ground := Ground.chain }, { on := 6, ground := Ground.guard }], guard := some (6, true) }) rfl (fun K hK => ?_) AllReadyH.nil
        go_simp
        (go_at_call 14; (with_reducible refine (Same_yes (hV8.below hS.2.2 (Nat.le_refl _)) hF rfl sN).mono ?_); rintro e wn ⟨rfl, hb1⟩)
        go_wp2_with fail
        refine hK.out _ _ (keepD hS hb1) (fun hS => ?_)
        clear hK K hb1
        try simp only [Act.put, List.setIfInBounds_toArray, List.set_cons_zero, List.set_cons_succ]
        refine wpAnyH_take (i := 12) (oi := { dst := some 79, op := Op.unOp UnOp.not 4 (Operand.tmp 78), type := 4, pos := "law.go:54", after := #[{ on := 11, ground := Ground.data }, { on := 6, ground := Ground.guard }], guard := some (6, true) }) (v := ?_) rfl (by kernel_rfl) (by kernel_rfl) (by kernel_rfl) (fun _ _ _ h => h) (Or.inl ⟨by rfl, ?_⟩) hS ?_
        rotate_left
        · (intro w' hSw; (try dsimp only at hSw); go_simp; try with_reducible rfl)
        try simp only [Act.put, List.setIfInBounds_toArray, List.set_cons_zero, List.set_cons_succ]
        refine wpAnyH_take (i := 13) (oi := { dst := some 80, op := Op.pick (Operand.tmp 73) (Operand.tmp 79) (Operand.const (Value.bool false)), type := 4, pos := "law.go:54", after := #[{ on := 6, ground := Ground.data }, { on := 12, ground := Ground.data }, { on := 3, ground := Ground.guard }], guard := some (3, false) }) (v := ?_) rfl (by kernel_rfl) (by kernel_rfl) (by kernel_rfl) (fun _ _ _ h => h) (Or.inl ⟨by rfl, ?_⟩) hS ?_
        rotate_left
        · (intro w' hSw; (try dsimp only at hSw); go_simp; try with_reducible rfl)
        try simp only [Act.put, List.setIfInBounds_toArray, List.set_cons_zero, List.set_cons_succ]
        refine wpAnyH_take (i := 14) (oi := { dst := some 81, op := Op.pick (Operand.tmp 70) (Operand.const (Value.bool true)) (Operand.tmp 80), type := 4, pos := "law.go:54", after := #[{ on := 3, ground := Ground.data }, { on := 13, ground := Ground.data }], guard := none }) (v := ?_) rfl (by kernel_rfl) (by kernel_rfl) (by kernel_rfl) (fun _ _ _ h => h) (Or.inl ⟨by rfl, ?_⟩) hS ?_
        rotate_left
        · (intro w' hSw; (try dsimp only at hSw); go_simp; try with_reducible rfl)
        try simp only [Act.put, List.setIfInBounds_toArray, List.set_cons_zero, List.set_cons_succ]
        refine wpAnyH_done (by kernel_rfl) ?_ _
        go_wp2_with fail
        go_meet
        exact ⟨rfl, hS⟩
      · have t1 : decide (-4611686018427387904 < m) = false := decide_eq_false hlo
        clear hlo
        refine wp_region_held_drew (S := fun w' => w'.cell? ⟨g, 0, none⟩ = some (.bool zn) ∧ w'.cell? ⟨g, 1, none⟩ = some (.slice za zl zc) ∧ Below w8.heap.size w8 w') (by kernel_rfl) (⟨z0, z1, hBd⟩) (fun hS => ?_)
        refine wpAnyH_take (i := 0) (oi := { dst := some 67, op := Op.load 24 (Operand.tmp 11), type := 24, pos := "law.go:54", after := #[], guard := none }) (v := ?_) rfl (by kernel_rfl) (by kernel_rfl) (by kernel_rfl) (fun _ _ _ h => h) (Or.inl ⟨by rfl, ?_⟩) hS ?_
        rotate_left
        · (intro w' hSw; (try dsimp only at hSw); go_simp; try with_reducible rfl)
        try simp only [Act.put, List.setIfInBounds_toArray, List.set_cons_zero, List.set_cons_succ]
        refine wpAnyH_ready (rs := [1]) (by kernel_rfl) (by simp) ?_
        refine AllReadyH.cons (o := { dst := some 68, op := Op.call { callee := Callee.value (Operand.func 17), args := #[Operand.tmp 67], argTypes := #[24] }, type := 4, pos := "law.go:54", after := #[{ on := 0, ground := Ground.data }], guard := none }) rfl (fun K hK => ?_) AllReadyH.nil
        go_simp
        (go_at_call 17; (with_reducible refine (RRight_int (hV8.below hS.2.2 (Nat.le_refl _)) sN).mono ?_); rintro e wn ⟨rfl, hb1⟩)
        go_wp2_with fail
        refine hK.out _ _ (keepD hS hb1) (fun hS => ?_)
        clear hK K hb1
        try simp only [Act.put, List.setIfInBounds_toArray, List.set_cons_zero, List.set_cons_succ]
        refine wpAnyH_take (i := 2) (oi := { dst := some 69, op := Op.unOp UnOp.not 4 (Operand.tmp 68), type := 4, pos := "law.go:54", after := #[{ on := 1, ground := Ground.data }], guard := none }) (v := ?_) rfl (by kernel_rfl) (by kernel_rfl) (by kernel_rfl) (fun _ _ _ h => h) (Or.inl ⟨by rfl, ?_⟩) hS ?_
        rotate_left
        · (intro w' hSw; (try dsimp only at hSw); go_simp; try with_reducible rfl)
        try simp only [Act.put, List.setIfInBounds_toArray, List.set_cons_zero, List.set_cons_succ]
        refine wpAnyH_take (i := 3) (oi := { dst := some 70, op := Op.move (Operand.tmp 69), type := 4, pos := "law.go:54", after := #[{ on := 2, ground := Ground.data }, { on := 1, ground := Ground.chain }], guard := none }) (v := ?_) rfl (by kernel_rfl) (by kernel_rfl) (by kernel_rfl) (fun _ _ _ h => h) (Or.inl ⟨by rfl, ?_⟩) hS ?_
        rotate_left
        · (intro w' hSw; (try dsimp only at hSw); go_simp; try with_reducible rfl)
        try simp only [Act.put, List.setIfInBounds_toArray, List.set_cons_zero, List.set_cons_succ]
        refine wpAnyH_take (i := 4) (oi := { dst := some 71, op := Op.move (Operand.tmp 1), type := 2, pos := "law.go:54", after := #[{ on := 3, ground := Ground.guard }], guard := some (3, false) }) (v := ?_) rfl (by kernel_rfl) (by kernel_rfl) (by kernel_rfl) (fun _ _ _ h => h) (Or.inl ⟨by rfl, ?_⟩) hS ?_
        rotate_left
        · (intro w' hSw; (try dsimp only at hSw); go_simp; try with_reducible rfl)
        try simp only [Act.put, List.setIfInBounds_toArray, List.set_cons_zero, List.set_cons_succ]
        refine wpAnyH_take (i := 5) (oi := { dst := some 72, op := Op.binOp BinOp.gtr 2 (Operand.tmp 71) (Operand.const (Value.int IntKind.i64 (-4611686018427387904))) 2, type := 4, pos := "law.go:54", after := #[{ on := 4, ground := Ground.data }, { on := 3, ground := Ground.guard }], guard := some (3, false) }) (v := ?_) rfl (by kernel_rfl) (by kernel_rfl) (by kernel_rfl) (fun _ _ _ h => h) (Or.inl ⟨by rfl, ?_⟩) hS ?_
        rotate_left
        · (intro w' hSw; (try dsimp only at hSw); go_simp; try with_reducible rfl)
        try simp only [Act.put, List.setIfInBounds_toArray, List.set_cons_zero, List.set_cons_succ]
        refine wpAnyH_take (i := 6) (oi := { dst := some 73, op := Op.move (Operand.tmp 72), type := 4, pos := "law.go:54", after := #[{ on := 5, ground := Ground.data }, { on := 3, ground := Ground.chain }, { on := 3, ground := Ground.guard }], guard := some (3, false) }) (v := ?_) rfl (by kernel_rfl) (by kernel_rfl) (by kernel_rfl) (fun _ _ _ h => h) (Or.inl ⟨by rfl, ?_⟩) hS ?_
        rotate_left
        · (intro w' hSw; (try dsimp only at hSw); go_simp; try with_reducible rfl)
        try simp only [Act.put, List.setIfInBounds_toArray, List.set_cons_zero, List.set_cons_succ]
        refine wpAnyH_take (i := 7) (oi := { dst := some 74, op := Op.load 24 (Operand.tmp 11), type := 24, pos := "law.go:54", after := #[{ on := 6, ground := Ground.guard }], guard := some (6, true) }) (v := undef) rfl (by kernel_rfl) (by kernel_rfl) (by kernel_rfl) (fun _ _ _ h => h) (Or.inr ⟨by rfl, rfl⟩) hS ?_
        try simp only [Act.put, List.setIfInBounds_toArray, List.set_cons_zero, List.set_cons_succ]
        refine wpAnyH_take (i := 8) (oi := { dst := some 75, op := Op.move (Operand.tmp 1), type := 2, pos := "law.go:54", after := #[{ on := 6, ground := Ground.guard }], guard := some (6, true) }) (v := undef) rfl (by kernel_rfl) (by kernel_rfl) (by kernel_rfl) (fun _ _ _ h => h) (Or.inr ⟨by rfl, rfl⟩) hS ?_
        try simp only [Act.put, List.setIfInBounds_toArray, List.set_cons_zero, List.set_cons_succ]
        refine wpAnyH_take (i := 9) (oi := { dst := some 76, op := Op.call { callee := Callee.value (Operand.func 19), args := #[Operand.tmp 75], argTypes := #[3] }, type := 30, pos := "law.go:54", after := #[{ on := 8, ground := Ground.data }, { on := 6, ground := Ground.chain }, { on := 6, ground := Ground.guard }], guard := some (6, true) }) (v := undef) rfl (by kernel_rfl) (by kernel_rfl) (by kernel_rfl) (fun _ _ _ h => h) (Or.inr ⟨by rfl, rfl⟩) hS ?_
        try simp only [Act.put, List.setIfInBounds_toArray, List.set_cons_zero, List.set_cons_succ]
        refine wpAnyH_take (i := 10) (oi := { dst := some 77, op := Op.call { callee := Callee.value (Operand.func 15), args := #[Operand.tmp 76], argTypes := #[30] }, type := 24, pos := "law.go:54", after := #[{ on := 9, ground := Ground.data }, { on := 9, ground := Ground.chain }, { on := 6, ground := Ground.guard }], guard := some (6, true) }) (v := undef) rfl (by kernel_rfl) (by kernel_rfl) (by kernel_rfl) (fun _ _ _ h => h) (Or.inr ⟨by rfl, rfl⟩) hS ?_
        try simp only [Act.put, List.setIfInBounds_toArray, List.set_cons_zero, List.set_cons_succ]
        refine wpAnyH_take (i := 11) (oi := { dst := some 78, op := Op.call { callee := Callee.value (Operand.func 14), args := #[Operand.tmp 74, Operand.tmp 77], argTypes := #[24, 24] }, type := 4, pos := "law.go:54", after := #[{ on := 7, ground := Ground.data }, { on := 10, ground := Ground.data }, { on := 10, ground := Ground.chain }, { on := 6, ground := Ground.guard }], guard := some (6, true) }) (v := undef) rfl (by kernel_rfl) (by kernel_rfl) (by kernel_rfl) (fun _ _ _ h => h) (Or.inr ⟨by rfl, rfl⟩) hS ?_
        try simp only [Act.put, List.setIfInBounds_toArray, List.set_cons_zero, List.set_cons_succ]
        refine wpAnyH_take (i := 12) (oi := { dst := some 79, op := Op.unOp UnOp.not 4 (Operand.tmp 78), type := 4, pos := "law.go:54", after := #[{ on := 11, ground := Ground.data }, { on := 6, ground := Ground.guard }], guard := some (6, true) }) (v := undef) rfl (by kernel_rfl) (by kernel_rfl) (by kernel_rfl) (fun _ _ _ h => h) (Or.inr ⟨by rfl, rfl⟩) hS ?_
        try simp only [Act.put, List.setIfInBounds_toArray, List.set_cons_zero, List.set_cons_succ]
        refine wpAnyH_take (i := 13) (oi := { dst := some 80, op := Op.pick (Operand.tmp 73) (Operand.tmp 79) (Operand.const (Value.bool false)), type := 4, pos := "law.go:54", after := #[{ on := 6, ground := Ground.data }, { on := 12, ground := Ground.data }, { on := 3, ground := Ground.guard }], guard := some (3, false) }) (v := ?_) rfl (by kernel_rfl) (by kernel_rfl) (by kernel_rfl) (fun _ _ _ h => h) (Or.inl ⟨by rfl, ?_⟩) hS ?_
        rotate_left
        · (intro w' hSw; (try dsimp only at hSw); go_simp; try with_reducible rfl)
        try simp only [Act.put, List.setIfInBounds_toArray, List.set_cons_zero, List.set_cons_succ]
        refine wpAnyH_take (i := 14) (oi := { dst := some 81, op := Op.pick (Operand.tmp 70) (Operand.const (Value.bool true)) (Operand.tmp 80), type := 4, pos := "law.go:54", after := #[{ on := 3, ground := Ground.data }, { on := 13, ground := Ground.data }], guard := none }) (v := ?_) rfl (by kernel_rfl) (by kernel_rfl) (by kernel_rfl) (fun _ _ _ h => h) (Or.inl ⟨by rfl, ?_⟩) hS ?_
        rotate_left
        · (intro w' hSw; (try dsimp only at hSw); go_simp; try with_reducible rfl)
        try simp only [Act.put, List.setIfInBounds_toArray, List.set_cons_zero, List.set_cons_succ]
        refine wpAnyH_done (by kernel_rfl) ?_ _
        go_wp2_with fail
        go_meet
        exact ⟨rfl, hS⟩
    case rest =>
      obtain ⟨rfl, z0, z1, bw⟩ := hcut
      have hB9 : Below w.heap.size w wc := hB8.trans (bw.mono hB8.size)
      have hV9 := hV8.below bw (Nat.le_refl _)
      clear hV8 bw hB8 hBd
      go_wp2_with fail
      refine (Small_any _ hV9 sN).mono ?_
      rintro e wa ⟨rfl, hba⟩
      have hBa : Below w.heap.size w wa := hB9.trans (hba.mono hB9.size)
      clear hB9 hba hV9 z0 z1
      by_cases hsm : m.natAbs ≤ 4611686018427387904
      · rw [if_pos hsm, decide_eq_true hsm]
        have t1 : decide (-4611686018427387904 ≤ m) = true := decide_eq_true (by omega)
        have t2 : decide (m ≤ 4611686018427387904) = true := decide_eq_true (by omega)
        have t3 : (m == m) = true := by simp
        clear hsm hm1 hm2
        go_wp2_with fail
        go_ret
        exact ⟨rfl, hBa⟩
      · rw [if_neg hsm, decide_eq_false hsm]
        by_cases hlo : -4611686018427387904 ≤ m
        · have t1 : decide (-4611686018427387904 ≤ m) = true := decide_eq_true hlo
          have t2 : decide (m ≤ 4611686018427387904) = false := decide_eq_false (by omega)
          clear hsm hm1 hm2 hlo
          go_wp2_with fail
          go_ret
          exact ⟨rfl, hBa⟩
        · have t1 : decide (-4611686018427387904 ≤ m) = false := decide_eq_false hlo
          clear hsm hm1 hm2 hlo
          go_wp2_with fail
          go_ret
          exact ⟨rfl, hBa⟩
end Go.Proofs.YthpibilefdmemaaDoor
