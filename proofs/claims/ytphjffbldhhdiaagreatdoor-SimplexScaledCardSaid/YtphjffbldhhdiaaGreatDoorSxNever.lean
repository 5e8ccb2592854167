/- collatorref17.Never: by its contract. -/
import Derived.Test.YtphjffbldhhdiaaGreatDoorSxFits
namespace Go.Proofs.YtphjffbldhhdiaaGreatDoor
open Go.RowKit

/-- The sums of rows, taken so many times, are not too great. -/
structure NevSz (S : Sys) (y : Nat → Rat) : Prop where
  n : S.n ≤ 1000
  m : S.m ≤ 1000
  A : ∀ i c, i < S.m → c < S.n → Qr (S.A i c)
  M : ∀ i, i < S.m → Qr (S.most i)
  Y : ∀ i, i < S.m → Qr (y i)
  P : ∀ i c, i < S.m → c < S.n → Qr (y i * S.A i c)
  PM : ∀ i, i < S.m → Qr (y i * S.most i)
  T : ∀ i c, i ≤ S.m → c < S.n → Qr (sumR i fun i => y i * S.A i c)
  TM : ∀ i, i ≤ S.m → Qr (sumR i fun i => y i * S.most i)
theorem NevSz.of {S : Sys} {y : Nat → Rat} {k1 k2 k3 : Nat} (hn : S.n ≤ 1000) (hm : S.m ≤ 1000) (hA : ∀ i c, i < S.m → c < S.n → Qn k1 (S.A i c)) (hy : ∀ i, i < S.m → Qn k2 (y i)) (hM : ∀ i, i < S.m → Qn k3 (S.most i))
    (h1 : S.m * (k2 + k1 + 1) + 1 + k1 + k2 ≤ 100000000) (h3 : S.m * (k2 + k3 + 1) + 1 + k2 + k3 ≤ 100000000) : NevSz S y where
  n := hn
  m := hm
  A := fun i c hi hc => (hA i c hi hc).r (by omega)
  M := fun i hi => (hM i hi).r (by omega)
  Y := fun i hi => (hy i hi).r (by omega)
  P := fun i c hi hc => (Qn.mul (hy i hi) (hA i c hi hc)).r (by omega)
  PM := fun i hi => (Qn.mul (hy i hi) (hM i hi)).r (by omega)
  T := fun i c hi hc => by
    have h := sumR_size sizesQ (k := k2 + k1) (f := fun i => y i * S.A i c) i (fun k hk => Qn.mul (hy k (by omega)) (hA k c (by omega) hc))
    refine h.r ?_
    have : i * (k2 + k1 + 1) ≤ S.m * (k2 + k1 + 1) := Nat.mul_le_mul_right _ hi
    omega
  TM := fun i hi => by
    have h := sumR_size sizesQ (k := k2 + k3) (f := fun i => y i * S.most i) i (fun k hk => Qn.mul (hy k (by omega)) (hM k (by omega)))
    refine h.r ?_
    have : i * (k2 + k3 + 1) ≤ S.m * (k2 + k3 + 1) := Nat.mul_le_mul_right _ hi
    omega

set_option maxRecDepth 100000 in
set_option maxHeartbeats 12800000 in
theorem rnever_any {S : Sys} {y : Nat → Rat} {a ay : Option Addr} {cap capy b o gy oy : Nat} (w : World) (hz : NevSz S y) (ha : 0 < S.m → a = some ⟨b, o, none⟩) (hR : RowsV w b o S) (hy : 0 < S.m → ay = some ⟨gy, oy, none⟩) (hY : ∀ i, i < S.m → FAt w gy (oy + i * 4) (y i)) (hnev : S.Never y) :
    Calls Tryz.prog 11 #[.int .i64 (S.n : Int), .slice a S.m cap, .slice ay S.m capy] w fun e w' => e = .returned (.bool true) ∧ Below w.heap.size w w' := by
  have hn := hz.n
  have hm := hz.m
  have HZ := hide hz
  have HA := hide ha
  have HR := hide hR
  have HY := hide hy
  have HYY := hide hY
  have HN := hide hnev
  clear hz ha hR hy hY hnev
  have z0q : Qr 0 := Qn.zero.r (by decide)
  have ell : ((S.m : Int) != (S.m : Int)) = false := by simp
  go_enter Tryz.func11, Tryz.ntmps11
  go_wp2_with fail
  refine (RInt2_any 0 w (by decide) (by decide)).mono ?_
  rintro e w1 ⟨r, rfl, hr, hb1⟩
  replace hr : RFracV w1 r 0 := hr
  obtain ⟨zn, za, zl, zk, zm, zb, zi, zj, rfl, -, -⟩ := hr.parts
  obtain ⟨w2, hw2⟩ : ∃ w2, w1.alloc (.cells #[.bool zn, .slice za zl zk, .bool zm, .slice zb zi zj] 68) = w2 := ⟨_, rfl⟩
  obtain ⟨g7, hg7⟩ : ∃ g, w1.heap.size = g := ⟨_, rfl⟩
  have hz7 : RBox w2 g7 0 := by rw [← hw2, ← hg7]; exact RBox.new hr
  have hr2 : RFracV w2 (.agg #[.bool zn, .slice za zl zk, .bool zm, .slice zb zi zj]) 0 := by rw [← hw2]; exact hr.allocd _
  have hB2 : Below w.heap.size w w2 := by rw [← hw2]; exact hb1.alloc hb1.size _
  have hle7 : w.heap.size ≤ g7 := by rw [← hg7]; exact hb1.size
  obtain ⟨g8, hg8⟩ : ∃ g, w2.heap.size = g := ⟨_, rfl⟩
  obtain ⟨w3, hw3⟩ : ∃ w3, w2.alloc (.cells #[.bool zn, .slice za zl zk, .bool zm, .slice zb zi zj] 68) = w3 := ⟨_, rfl⟩
  have hz8 : RBox w3 g8 0 := by rw [← hw3, ← hg8]; exact RBox.new hr2
  have hB3 : Below w.heap.size w w3 := by rw [← hw3]; exact hB2.alloc hB2.size _
  have hle8 : w.heap.size ≤ g8 := by rw [← hg8]; exact hB2.size
  have h78 : g7 ≠ g8 := by have := hz7.lt; omega
  have hz73 : RBox w3 g7 0 := by rw [← hw3]; exact hz7.below ((Below.refl _ _).alloc (Nat.le_refl _) _) (Nat.le_refl _)
  have c7 : w2.cell? ⟨g7, 0, none⟩ = some (.bool zn) ∧ w2.cell? ⟨g7, 1, none⟩ = some (.slice za zl zk) ∧ w2.cell? ⟨g7, 2, none⟩ = some (.bool zm) ∧ w2.cell? ⟨g7, 3, none⟩ = some (.slice zb zi zj) := by
    have hb : Blk w2 g7 68 #[.bool zn, .slice za zl zk, .bool zm, .slice zb zi zj] := by rw [← hw2, ← hg7]; exact Blk.new _ _ _
    obtain ⟨q0, q1, q2, q3, -⟩ := hb.c4
    exact ⟨q0, q1, q2, q3⟩
  have HW2 := hide hw2
  have HW3 := hide hw3
  have HG7 := hide hg7
  have HG8 := hide hg8
  clear hw2 hw3 hg7 hg8 hz7 hr hr2 hb1 hB2
  go_upto_region 2 with (fail)
  rw [HW2.out, HG7.out]
  clear HW2 HG7
  obtain ⟨q0, q1, q2, q3⟩ := c7
  go_wp2_with fail
  rw [HW3.out, HG8.out]
  clear HW3 HG8 q0 q1 q2 q3
  go_loopg [9] S.m (fun k v9 wr => ∃ j : Nat, j + k = S.m ∧ v9 = .int .i64 (j : Int) ∧ Below w.heap.size w wr ∧ RBox wr g7 0 ∧ RBox wr g8 (sumR j fun i => y i * S.most i))
  case atStart => exact ⟨0, by omega, rfl, hB3, hz73, hz8⟩
  case round =>
    clear hB3 hz73 hz8
    obtain ⟨j, hjk, rfl, hB, h7, h8⟩ := hrel
    rcases Nat.eq_zero_or_pos gk with h0 | h0
    · subst h0
      obtain rfl : j = S.m := by omega
      clear hjk
      go_wp2_with fail
      go_loopg [10] S.n (fun k v10 wr => ∃ c : Nat, c + k = S.n ∧ v10 = .int .i64 (c : Int) ∧ Below w.heap.size w wr ∧ RBox wr g7 0 ∧ RBox wr g8 (sumR S.m fun i => y i * S.most i))
      case atStart => exact ⟨0, by omega, rfl, hB, h7, h8⟩
      case round =>
        clear hB h7 h8
        obtain ⟨c, hck, rfl, hB, h7, h8⟩ := hrel
        rcases Nat.eq_zero_or_pos gk with h0 | h0
        · subst h0
          obtain rfl : c = S.n := by omega
          have zt := HZ.out.TM S.m (Nat.le_refl _)
          obtain ⟨C, hC⟩ : ∃ C, ordQ (sumR S.m fun i => y i * S.most i) 0 = C := ⟨_, rfl⟩
          obtain rfl : C = -1 := by rw [← hC]; exact ordQ_lt HN.out.neg
          have HC := hide hC
          clear hC hck
          obtain ⟨zn, za, zl, zk, zm, zb, zi, zj, hblk, hzv⟩ := h7
          obtain ⟨xn, xa, xl, xk, xm, xb, xi, xj, hblk8, hxv⟩ := h8
          obtain ⟨z0, z1, z2, z3, -⟩ := hblk.c4
          obtain ⟨x0, x1, x2, x3, -⟩ := hblk8.c4
          go_wp2_with fail
          refine (RCmp2_at hxv hzv zt z0q HC.out).mono ?_
          rintro e w4 ⟨rfl, hb4⟩
          have hB4 := hB.trans (hb4.mono hB.size)
          clear z0 z1 z2 z3 x0 x1 x2 x3
          go_wp2_with fail
          go_ret
          exact ⟨rfl, hB4⟩
        · have hc : c < S.n := by omega
          have ec : (c : Int) < (S.n : Int) := by omega
          have h7' := h7
          obtain ⟨zn, za, zl, zk, zm, zb, zi, zj, hblk, hzv⟩ := h7'
          obtain ⟨z0, z1, z2, z3, -⟩ := hblk.c4
          obtain ⟨w2, hw2⟩ : ∃ w2, wr.alloc (.cells #[.bool zn, .slice za zl zk, .bool zm, .slice zb zi zj] 68) = w2 := ⟨_, rfl⟩
          obtain ⟨g, hg⟩ : ∃ g, wr.heap.size = g := ⟨_, rfl⟩
          have hgx : RBox w2 g 0 := by rw [← hw2, ← hg]; exact RBox.new hzv
          have ha2 : Below wr.heap.size wr w2 := by rw [← hw2]; exact (Below.refl _ _).alloc (Nat.le_refl _) _
          have hB2 := hB.trans (ha2.mono hB.size)
          have hle : w.heap.size ≤ g := by rw [← hg]; exact hB.size
          have g7g : g7 ≠ g := by have := h7.lt; omega
          have g8g : g8 ≠ g := by have := h8.lt; omega
          have h72 := h7.below ha2 (Nat.le_refl _)
          have h82 := h8.below ha2 (Nat.le_refl _)
          have HW2 := hide hw2
          have HG := hide hg
          clear hw2 hg ha2 h7 h8 hB
          go_upto_region 15 with (fail)
          rw [HW2.out, HG.out]
          clear HW2 HG z0 z1 z2 z3 hzv hblk
          go_wp2_with fail
          obtain ⟨gk1, hK1⟩ : ∃ K1, K1 = gk := ⟨_, rfl⟩
          subst hK1
          go_loopg [12] S.m (fun k v12 wr => ∃ j : Nat, j + k = S.m ∧ v12 = .int .i64 (j : Int) ∧ Below w.heap.size w wr ∧ RBox wr g7 0 ∧ RBox wr g8 (sumR S.m fun i => y i * S.most i) ∧ RBox wr g (sumR j fun i => y i * S.A i c))
          case atStart => exact ⟨0, by omega, rfl, hB2, h72, h82, hgx⟩
          case round =>
            clear hB2 h72 h82 hgx
            obtain ⟨j, hjk, rfl, hB, h7, h8, hbx⟩ := hrel
            rcases Nat.eq_zero_or_pos gk with h0 | h0
            · subst h0
              obtain rfl : j = S.m := by omega
              have zt := HZ.out.T S.m c (Nat.le_refl _) hc
              obtain ⟨C, hC⟩ : ∃ C, ordQ (sumR S.m fun i => y i * S.A i c) 0 = C := ⟨_, rfl⟩
              obtain rfl : C = 0 := by rw [← hC, HN.out.zero c hc]; exact ordQ_self 0
              have HC := hide hC
              clear hC hjk
              have h7' := h7
              have hbx' := hbx
              obtain ⟨zn, za, zl, zk, zm, zb, zi, zj, hblk, hzv⟩ := h7'
              obtain ⟨xn, xa, xl, xk, xm, xb, xi, xj, hblk8, hxv⟩ := hbx'
              obtain ⟨z0, z1, z2, z3, -⟩ := hblk.c4
              obtain ⟨x0, x1, x2, x3, -⟩ := hblk8.c4
              go_wp2_with fail
              refine (RCmp2_at hxv hzv zt z0q HC.out).mono ?_
              rintro e w4 ⟨rfl, hb4⟩
              have hB4 := hB.trans (hb4.mono hB.size)
              have h74 := h7.below hb4 (Nat.le_refl _)
              have h84 := h8.below hb4 (Nat.le_refl _)
              clear z0 z1 z2 z3 x0 x1 x2 x3 hblk hblk8 hzv hxv h7 h8 hbx
              go_wp2_with fail
              go_roundg (gk1 - 1)
              case measure => omega
              case rel => exact ⟨c + 1, by omega, by go_num, hB4, h74, h84⟩
            · have hj : j < S.m := by omega
              have ej : (j : Int) < (S.m : Int) := by omega
              obtain rfl := HA.out (by omega)
              obtain rfl := HY.out (by omega)
              obtain ⟨ra, rk, r0, _, hrow0, _⟩ := HR.out j hj
              obtain ⟨rb, ro, rfl, hrow⟩ := hrow0 (by omega)
              clear hrow0
              obtain ⟨yn, ya, yl, yk, ym, yb, yi, yj, y0, y1, y2, y3, hy⟩ := (hrow c hc).below hB (Nat.le_refl _)
              obtain ⟨xn, xa, xl, xk, xm, xb, xi, xj, x0, x1, x2, x3, hx⟩ := (HYY.out j hj).below hB (Nat.le_refl _)
              replace r0 := cellB r0 hB (Nat.le_refl _)
              have zA := HZ.out.A j c hj hc
              have zx := HZ.out.Y j hj
              have zP := HZ.out.P j c hj hc
              have zs := HZ.out.T j c (by omega) hc
              have HE : Hid ((sumR j fun i => y i * S.A i c) + y j * S.A j c = sumR (j + 1) fun i => y i * S.A i c) := hide rfl
              have hbx' := hbx
              generalize (sumR j fun i => y i * S.A i c) = q at *
              obtain ⟨zn, za, zl, zk, zm, zb, zi, zj, hblk, hzv⟩ := hbx'
              replace hrow := hide hrow
              obtain ⟨z0, z1, z2, z3, -⟩ := hblk.c4
              go_upto_region 18 with (fail)
              refine wp_region_till (S := fun w' => w'.cell? ⟨g, 0, none⟩ = some (.bool zn) ∧ w'.cell? ⟨g, 1, none⟩ = some (.slice za zl zk) ∧ w'.cell? ⟨g, 2, none⟩ = some (.bool zm) ∧ w'.cell? ⟨g, 3, none⟩ = some (.slice zb zi zj) ∧ w'.cell? ⟨b, o + j * 5, none⟩ = some (.slice (some ⟨rb, ro, none⟩) S.n rk) ∧ w'.cell? ⟨rb, ro + c * 4, none⟩ = some (.bool yn) ∧ w'.cell? ⟨rb, ro + c * 4 + 1, none⟩ = some (.slice ya yl yk) ∧ w'.cell? ⟨rb, ro + c * 4 + 2, none⟩ = some (.bool ym) ∧ w'.cell? ⟨rb, ro + c * 4 + 3, none⟩ = some (.slice yb yi yj) ∧ w'.cell? ⟨gy, oy + j * 4, none⟩ = some (.bool xn) ∧ w'.cell? ⟨gy, oy + j * 4 + 1, none⟩ = some (.slice xa xl xk) ∧ w'.cell? ⟨gy, oy + j * 4 + 2, none⟩ = some (.bool xm) ∧ w'.cell? ⟨gy, oy + j * 4 + 3, none⟩ = some (.slice xb xi xj) ∧ Below wr.heap.size wr w') (fun i => decide (i < 17)) (by kernel_rfl) (⟨z0, z1, z2, z3, r0, y0, y1, y2, y3, x0, x1, x2, x3, (Below.refl _ _).drew⟩) (fun hS => ?_)
              refine Till_take (i := 0) (oi := ⟨some 68, Op.load 68 (Operand.tmp 11), 68, "ref.go:63", #[], none⟩) (v := ?_) rfl (by kernel_rfl) (by kernel_rfl) (by kernel_rfl) (fun _ _ _ h => h) rfl (by kernel_rfl) (Or.inl ⟨by rfl, ?_⟩) hS ?_
              rotate_left
              · (intro w' hSw; (try dsimp only at hSw); go_simp; try with_reducible rfl)
              try simp only [Act.put, sB, sC, sD]
              refine Till_take (i := 1) (oi := ⟨some 69, Op.move (Operand.tmp 2), 25, "ref.go:63", #[], none⟩) (v := ?_) rfl (by kernel_rfl) (by kernel_rfl) (by kernel_rfl) (fun _ _ _ h => h) rfl (by kernel_rfl) (Or.inl ⟨by rfl, ?_⟩) hS ?_
              rotate_left
              · (intro w' hSw; (try dsimp only at hSw); go_simp; try with_reducible rfl)
              try simp only [Act.put, sB, sC, sD]
              refine Till_take (i := 2) (oi := ⟨some 70, Op.move (Operand.tmp 12), 3, "ref.go:63", #[], none⟩) (v := ?_) rfl (by kernel_rfl) (by kernel_rfl) (by kernel_rfl) (fun _ _ _ h => h) rfl (by kernel_rfl) (Or.inl ⟨by rfl, ?_⟩) hS ?_
              rotate_left
              · (intro w' hSw; (try dsimp only at hSw); go_simp; try with_reducible rfl)
              try simp only [Act.put, sB, sC, sD]
              refine Till_take (i := 3) (oi := ⟨some 71, Op.indexAddr 25 (Operand.tmp 69) (Operand.tmp 70), 0, "ref.go:63", #[eD 1, eD 2], none⟩) (v := ?_) rfl (by kernel_rfl) (by kernel_rfl) (by kernel_rfl) (fun _ _ _ h => h) rfl (by kernel_rfl) (Or.inl ⟨by rfl, ?_⟩) hS ?_
              rotate_left
              · (intro w' hSw; (try dsimp only at hSw); go_simp; try with_reducible rfl)
              try simp only [Act.put, sB, sC, sD]
              refine Till_take (i := 4) (oi := ⟨some 72, Op.load 39 (Operand.tmp 71), 39, "ref.go:63", #[eD 3], none⟩) (v := ?_) rfl (by kernel_rfl) (by kernel_rfl) (by kernel_rfl) (fun _ _ _ h => h) rfl (by kernel_rfl) (Or.inl ⟨by rfl, ?_⟩) hS ?_
              rotate_left
              · (intro w' hSw; (try dsimp only at hSw); go_simp; try with_reducible rfl)
              try simp only [Act.put, sB, sC, sD]
              refine Till_take (i := 6) (oi := ⟨some 74, Op.move (Operand.tmp 1), 31, "ref.go:63", #[], none⟩) (v := ?_) rfl (by kernel_rfl) (by kernel_rfl) (by kernel_rfl) (fun _ _ _ h => h) rfl (by kernel_rfl) (Or.inl ⟨by rfl, ?_⟩) hS ?_
              rotate_left
              · (intro w' hSw; (try dsimp only at hSw); go_simp; try with_reducible rfl)
              try simp only [Act.put, sB, sC, sD]
              refine Till_take (i := 7) (oi := ⟨some 75, Op.move (Operand.tmp 12), 3, "ref.go:63", #[], none⟩) (v := ?_) rfl (by kernel_rfl) (by kernel_rfl) (by kernel_rfl) (fun _ _ _ h => h) rfl (by kernel_rfl) (Or.inl ⟨by rfl, ?_⟩) hS ?_
              rotate_left
              · (intro w' hSw; (try dsimp only at hSw); go_simp; try with_reducible rfl)
              try simp only [Act.put, sB, sC, sD]
              refine Till_take (i := 8) (oi := ⟨some 76, Op.indexAddr 31 (Operand.tmp 74) (Operand.tmp 75), 0, "ref.go:63", #[eD 6, eD 7], none⟩) (v := ?_) rfl (by kernel_rfl) (by kernel_rfl) (by kernel_rfl) (fun _ _ _ h => h) rfl (by kernel_rfl) (Or.inl ⟨by rfl, ?_⟩) hS ?_
              rotate_left
              · (intro w' hSw; (try dsimp only at hSw); go_simp; try with_reducible rfl)
              try simp only [Act.put, sB, sC, sD]
              refine Till_take (i := 9) (oi := ⟨some 77, Op.fieldAddr 44 (Operand.tmp 76) 0, 0, "ref.go:63", #[eD 8], none⟩) (v := ?_) rfl (by kernel_rfl) (by kernel_rfl) (by kernel_rfl) (fun _ _ _ h => h) rfl (by kernel_rfl) (Or.inl ⟨by rfl, ?_⟩) hS ?_
              rotate_left
              · (intro w' hSw; (try dsimp only at hSw); go_simp; try with_reducible rfl)
              try simp only [Act.put, sB, sC, sD]
              refine Till_take (i := 10) (oi := ⟨some 78, Op.load 25 (Operand.tmp 77), 25, "ref.go:63", #[eD 9], none⟩) (v := ?_) rfl (by kernel_rfl) (by kernel_rfl) (by kernel_rfl) (fun _ _ _ h => h) rfl (by kernel_rfl) (Or.inl ⟨by rfl, ?_⟩) hS ?_
              rotate_left
              · (intro w' hSw; (try dsimp only at hSw); go_simp; try with_reducible rfl)
              try simp only [Act.put, sB, sC, sD]
              refine Till_take (i := 11) (oi := ⟨some 79, Op.move (Operand.tmp 10), 3, "ref.go:63", #[], none⟩) (v := ?_) rfl (by kernel_rfl) (by kernel_rfl) (by kernel_rfl) (fun _ _ _ h => h) rfl (by kernel_rfl) (Or.inl ⟨by rfl, ?_⟩) hS ?_
              rotate_left
              · (intro w' hSw; (try dsimp only at hSw); go_simp; try with_reducible rfl)
              try simp only [Act.put, sB, sC, sD]
              refine Till_take (i := 12) (oi := ⟨some 80, Op.indexAddr 25 (Operand.tmp 78) (Operand.tmp 79), 0, "ref.go:63", #[eD 10, eD 11], none⟩) (v := ?_) rfl (by kernel_rfl) (by kernel_rfl) (by kernel_rfl) (fun _ _ _ h => h) rfl (by kernel_rfl) (Or.inl ⟨by rfl, ?_⟩) hS ?_
              rotate_left
              · (intro w' hSw; (try dsimp only at hSw); go_simp; try with_reducible rfl)
              try simp only [Act.put, sB, sC, sD]
              refine Till_take (i := 13) (oi := ⟨some 81, Op.load 39 (Operand.tmp 80), 39, "ref.go:63", #[eD 12], none⟩) (v := ?_) rfl (by kernel_rfl) (by kernel_rfl) (by kernel_rfl) (fun _ _ _ h => h) rfl (by kernel_rfl) (Or.inl ⟨by rfl, ?_⟩) hS ?_
              rotate_left
              · (intro w' hSw; (try dsimp only at hSw); go_simp; try with_reducible rfl)
              try simp only [Act.put, sB, sC, sD]
              refine Till_ready (rs := [5]) (by kernel_rfl) (by kernel_rfl) (by simp) ?_
              refine AllReadyT.cons (o := ⟨some 73, Op.call { callee := Callee.value (Operand.func 31), args := #[Operand.tmp 72], argTypes := #[39] }, 68, "ref.go:63", #[eD 4], none⟩) rfl (fun K hK => ?_) AllReadyT.nil
              go_simp
              (go_at_call_of 31 (Value.agg #[.bool xn, .slice xa xl xk, .bool xm, .slice xb xi xj]); (with_reducible refine (ROf3_any (hx.below (hS.2.2.2.2.2.2.2.2.2.2.2.2.2) (Nat.le_refl _)) zx).mono ?_); rintro e wX ⟨rX, rfl, hX, hb1⟩)
              go_wp2_with fail
              refine hK.out _ _ (keepZ13 hS hb1) (fun hS => ?_)
              clear hK K hb1
              try simp only [Act.put, sB, sC, sD]
              refine Till_ready (rs := [14]) (by kernel_rfl) (by kernel_rfl) (by simp) ?_
              refine AllReadyT.cons (o := ⟨some 82, Op.call { callee := Callee.value (Operand.func 31), args := #[Operand.tmp 81], argTypes := #[39] }, 68, "ref.go:63", #[eD 13, eC 5], none⟩) rfl (fun K hK => ?_) AllReadyT.nil
              go_simp
              (go_at_call_of 31 (Value.agg #[.bool yn, .slice ya yl yk, .bool ym, .slice yb yi yj]); (with_reducible refine (ROf3_any (hy.below (hS.2.2.2.2.2.2.2.2.2.2.2.2.2) (Nat.le_refl _)) zA).mono ?_); rintro e wY ⟨rY, rfl, hY, hb1⟩)
              replace hX := hX.below hb1 (Nat.le_refl _)
              go_wp2_with fail
              refine hK.out _ _ (keepZ13 hS hb1) (fun hS => ?_)
              clear hK K hb1
              try simp only [Act.put, sB, sC, sD]
              refine Till_ready (rs := [15]) (by kernel_rfl) (by kernel_rfl) (by simp) ?_
              refine AllReadyT.cons (o := ⟨some 83, Op.call { callee := Callee.value (Operand.func 33), args := #[Operand.tmp 73, Operand.tmp 82], argTypes := #[68, 68] }, 68, "ref.go:63", #[eD 5, eD 14, eC 14], none⟩) rfl (fun K hK => ?_) AllReadyT.nil
              go_simp
              (go_at_call 33; (with_reducible refine (RMul2_any _ hX hY zx zA).mono ?_); rintro e wP ⟨rP, rfl, hP, hb1⟩)
              go_wp2_with fail
              refine hK.out _ _ (keepZ13 hS hb1) (fun hS => ?_)
              clear hK K hb1
              try simp only [Act.put, sB, sC, sD]
              refine Till_ready (rs := [16]) (by kernel_rfl) (by kernel_rfl) (by simp) ?_
              refine AllReadyT.cons (o := ⟨some 84, Op.call { callee := Callee.value (Operand.func 32), args := #[Operand.tmp 68, Operand.tmp 83], argTypes := #[68, 68] }, 68, "ref.go:63", #[eD 0, eD 15, eC 15], none⟩) rfl (fun K hK => ?_) AllReadyT.nil
              go_simp
              (go_at_call 32; (with_reducible refine (RAdd2_any _ (hzv.below (hS.2.2.2.2.2.2.2.2.2.2.2.2.2) (Nat.le_refl _)) hP zs zP).mono ?_); rintro e wN ⟨rN, rfl, hN, hb1⟩)
              obtain ⟨un, ua, ul, uk, um, ub, ui, uj, rfl, -, -⟩ := RFracV.parts hN
              go_wp2_with fail
              refine hK.out _ _ (keepZ13 hS hb1) (fun hS => ?_)
              clear hK K hb1
              try simp only [Act.put, sB, sC, sD]
              refine Till_turn (by kernel_rfl) ?_
              refine wpAnyH_ready (rs := [17]) (by kernel_rfl) (by simp) ?_
              refine AllReadyH.cons (o := ⟨none, Op.store 68 (Operand.tmp 11) (Operand.tmp 84), 0, "ref.go:63", #[eD 16, eC 16, eP 0, eP 1, eP 2, eP 3, eP 4, eP 5, eP 6, eP 7, eP 8, eP 9, eP 10, eP 11, eP 12, eP 13, eP 14, eP 15, eP 16], none⟩) rfl (fun K hK => ?_) AllReadyH.nil
              have hb3 := hbx.below (hS.2.2.2.2.2.2.2.2.2.2.2.2.2) (Nat.le_refl _)
              obtain ⟨_, _, _, _, _, _, _, _, hblk3, _⟩ := hb3
              have hb3 := hbx.below (hS.2.2.2.2.2.2.2.2.2.2.2.2.2) (Nat.le_refl _)
              obtain ⟨t0, t1, t2, t3, tf⟩ := hblk3.c4
              have f0 := tf 0
              have f1 := tf 1
              have f2 := tf 2
              have f3 := tf 3
              obtain ⟨w3, hw3⟩ : ∃ w3, (((wN.setCell ⟨g, 0, none⟩ (.bool un)).setCell ⟨g, 1, none⟩ (.slice ua ul uk)).setCell ⟨g, 2, none⟩ (.bool um)).setCell ⟨g, 3, none⟩ (.slice ub ui uj) = w3 := ⟨_, rfl⟩
              have hb4 : RBox w3 g (q + y j * S.A j c) := by rw [← hw3]; exact hb3.put hN
              have h74 : RBox w3 g7 0 := by rw [← hw3]; exact hb3.keep (h7.below (hS.2.2.2.2.2.2.2.2.2.2.2.2.2) (Nat.le_refl _)) g7g _ _ _ _
              have h84 : RBox w3 g8 (sumR S.m fun i => y i * S.most i) := by rw [← hw3]; exact hb3.keep (h8.below (hS.2.2.2.2.2.2.2.2.2.2.2.2.2) (Nat.le_refl _)) g8g _ _ _ _
              have hB4 : Below w.heap.size w w3 := by rw [← hw3]; exact set4b (hB.trans ((hS.2.2.2.2.2.2.2.2.2.2.2.2.2).mono hB.size)) hle _ _ _ _
              have HW3 := hide hw3
              clear hw3 tf
              go_simp
              refine hK.out _ _ trivial (fun _ => ?_)
              clear hK K t0 t1 t2 t3 f0 f1 f2 f3
              try simp only [Act.put, sB, sC, sD]
              refine wpAnyH_done (by kernel_rfl) ?_ _
              rw [HW3.out]
              clear HW3 hS z0 z1 z2 z3 x0 x1 x2 x3 y0 y1 y2 y3 r0
              go_wp2_with fail
              go_roundg (gk - 1)
              case measure => omega
              case rel => exact ⟨j + 1, by omega, by go_num, hB4, h74, h84, by rw [← HE.out]; exact hb4⟩
    · have hj : j < S.m := by omega
      have ej : (j : Int) < (S.m : Int) := by omega
      obtain rfl := HA.out (by omega)
      obtain rfl := HY.out (by omega)
      obtain ⟨R, hRat, hRf, hRq, hRs⟩ := (HYY.out j hj).raw (HZ.out.Y j hj) (by decide)
      obtain ⟨x0, x1, x2, x3, hok⟩ := hRat.below hB (Nat.le_refl _)
      have hRs2 : R.sz 1000000000 := ⟨Nat.le_trans hRs.1 (by decide), Nat.le_trans hRs.2 (by decide)⟩
      have hfx : FracV wr (.agg #[.bool R.up.neg, .slice R.up.at_ R.up.ds.length R.up.cap, .bool R.dn.neg, .slice R.dn.at_ R.dn.ds.length R.dn.cap]) (y j) := by rw [← hRq]; exact hok.fracV hRf
      have zx := HZ.out.Y j hj
      obtain ⟨C, hC⟩ : ∃ C, ordQ (y j) 0 = C := ⟨_, rfl⟩
      have e1 : decide (C < 0) = false := decide_eq_false (fun h => by
        rw [← hC] at h
        have h1 := (ordQ_neg0 _ _).1 h
        have h2 := HN.out.pos j hj
        grind)
      have e2 : ¬C < 0 := of_decide_eq_false e1
      have HC := hide hC
      have HRF := hide hRf
      have HRQ := hide hRq
      have h7' := h7
      obtain ⟨zn, za, zl, zk, zm, zb, zi, zj, hblk, hzv⟩ := h7'
      obtain ⟨z0, z1, z2, z3, -⟩ := hblk.c4
      clear hC hRf hRq hRat
      go_upto_region 8 with (fail)
      refine wp_region_held_drew (S := fun w' => w'.cell? ⟨gy, oy + j * 4, none⟩ = some (.bool R.up.neg) ∧ w'.cell? ⟨gy, oy + j * 4 + 1, none⟩ = some (.slice R.up.at_ R.up.ds.length R.up.cap) ∧ w'.cell? ⟨gy, oy + j * 4 + 2, none⟩ = some (.bool R.dn.neg) ∧ w'.cell? ⟨gy, oy + j * 4 + 3, none⟩ = some (.slice R.dn.at_ R.dn.ds.length R.dn.cap) ∧ w'.cell? ⟨g7, 0, none⟩ = some (.bool zn) ∧ w'.cell? ⟨g7, 1, none⟩ = some (.slice za zl zk) ∧ w'.cell? ⟨g7, 2, none⟩ = some (.bool zm) ∧ w'.cell? ⟨g7, 3, none⟩ = some (.slice zb zi zj) ∧ Below wr.heap.size wr w') (by kernel_rfl) (⟨x0, x1, x2, x3, z0, z1, z2, z3, (Below.refl _ _).drew⟩) (fun hS => ?_)
      refine wpAnyH_take (i := 0) (oi := ⟨some 26, Op.move (Operand.tmp 2), 25, "ref.go:55", #[], none⟩) (v := ?_) rfl (by kernel_rfl) (by kernel_rfl) (by kernel_rfl) (fun _ _ _ h => h) (Or.inl ⟨by rfl, ?_⟩) hS ?_
      rotate_left
      · (intro w' hSw; (try dsimp only at hSw); go_simp; try with_reducible rfl)
      try simp only [Act.put, sB, sC, sD]
      refine wpAnyH_take (i := 1) (oi := ⟨some 27, Op.move (Operand.tmp 9), 3, "ref.go:55", #[], none⟩) (v := ?_) rfl (by kernel_rfl) (by kernel_rfl) (by kernel_rfl) (fun _ _ _ h => h) (Or.inl ⟨by rfl, ?_⟩) hS ?_
      rotate_left
      · (intro w' hSw; (try dsimp only at hSw); go_simp; try with_reducible rfl)
      try simp only [Act.put, sB, sC, sD]
      refine wpAnyH_take (i := 2) (oi := ⟨some 28, Op.indexAddr 25 (Operand.tmp 26) (Operand.tmp 27), 0, "ref.go:55", #[eD 0, eD 1], none⟩) (v := ?_) rfl (by kernel_rfl) (by kernel_rfl) (by kernel_rfl) (fun _ _ _ h => h) (Or.inl ⟨by rfl, ?_⟩) hS ?_
      rotate_left
      · (intro w' hSw; (try dsimp only at hSw); go_simp; try with_reducible rfl)
      try simp only [Act.put, sB, sC, sD]
      refine wpAnyH_take (i := 3) (oi := ⟨some 29, Op.load 39 (Operand.tmp 28), 39, "ref.go:55", #[eD 2], none⟩) (v := ?_) rfl (by kernel_rfl) (by kernel_rfl) (by kernel_rfl) (fun _ _ _ h => h) (Or.inl ⟨by rfl, ?_⟩) hS ?_
      rotate_left
      · (intro w' hSw; (try dsimp only at hSw); go_simp; try with_reducible rfl)
      try simp only [Act.put, sB, sC, sD]
      refine wpAnyH_ready (rs := [4]) (by kernel_rfl) (by simp) ?_
      refine AllReadyH.cons (o := ⟨some 30, Op.call { callee := Callee.value (Operand.func 12), args := #[Operand.tmp 29], argTypes := #[39] }, 4, "ref.go:55", #[eD 3], none⟩) rfl (fun K hK => ?_) AllReadyH.nil
      go_simp
      (go_at_call 12; (with_reducible refine (rr_at R (hok.below (hS.2.2.2.2.2.2.2.2) (Nat.le_refl _)) hRs2 HRF.out).mono ?_); rintro e wR ⟨rfl, hb1⟩)
      go_wp2_with fail
      refine hK.out _ _ (keepZ8 hS hb1) (fun hS => ?_)
      clear hK K hb1
      try simp only [Act.put, sB, sC, sD]
      refine wpAnyH_take (i := 5) (oi := ⟨some 31, Op.unOp UnOp.not 4 (Operand.tmp 30), 4, "ref.go:55", #[eD 4], none⟩) (v := ?_) rfl (by kernel_rfl) (by kernel_rfl) (by kernel_rfl) (fun _ _ _ h => h) (Or.inl ⟨by rfl, ?_⟩) hS ?_
      rotate_left
      · (intro w' hSw; (try dsimp only at hSw); go_simp; try with_reducible rfl)
      try simp only [Act.put, sB, sC, sD]
      refine wpAnyH_take (i := 6) (oi := ⟨some 32, Op.move (Operand.tmp 31), 4, "ref.go:55", #[eD 5, eC 4], none⟩) (v := ?_) rfl (by kernel_rfl) (by kernel_rfl) (by kernel_rfl) (fun _ _ _ h => h) (Or.inl ⟨by rfl, ?_⟩) hS ?_
      rotate_left
      · (intro w' hSw; (try dsimp only at hSw); go_simp; try with_reducible rfl)
      try simp only [Act.put, sB, sC, sD]
      refine wpAnyH_take (i := 7) (oi := ⟨some 33, Op.move (Operand.tmp 2), 25, "ref.go:55", #[eG 6], some (6, false)⟩) (v := ?_) rfl (by kernel_rfl) (by kernel_rfl) (by kernel_rfl) (fun _ _ _ h => h) (Or.inl ⟨by rfl, ?_⟩) hS ?_
      rotate_left
      · (intro w' hSw; (try dsimp only at hSw); go_simp; try with_reducible rfl)
      try simp only [Act.put, sB, sC, sD]
      refine wpAnyH_take (i := 8) (oi := ⟨some 34, Op.move (Operand.tmp 9), 3, "ref.go:55", #[eG 6], some (6, false)⟩) (v := ?_) rfl (by kernel_rfl) (by kernel_rfl) (by kernel_rfl) (fun _ _ _ h => h) (Or.inl ⟨by rfl, ?_⟩) hS ?_
      rotate_left
      · (intro w' hSw; (try dsimp only at hSw); go_simp; try with_reducible rfl)
      try simp only [Act.put, sB, sC, sD]
      refine wpAnyH_take (i := 9) (oi := ⟨some 35, Op.indexAddr 25 (Operand.tmp 33) (Operand.tmp 34), 0, "ref.go:55", #[eD 7, eD 8, eG 6], some (6, false)⟩) (v := ?_) rfl (by kernel_rfl) (by kernel_rfl) (by kernel_rfl) (fun _ _ _ h => h) (Or.inl ⟨by rfl, ?_⟩) hS ?_
      rotate_left
      · (intro w' hSw; (try dsimp only at hSw); go_simp; try with_reducible rfl)
      try simp only [Act.put, sB, sC, sD]
      refine wpAnyH_take (i := 10) (oi := ⟨some 36, Op.load 39 (Operand.tmp 35), 39, "ref.go:55", #[eD 9, eG 6], some (6, false)⟩) (v := ?_) rfl (by kernel_rfl) (by kernel_rfl) (by kernel_rfl) (fun _ _ _ h => h) (Or.inl ⟨by rfl, ?_⟩) hS ?_
      rotate_left
      · (intro w' hSw; (try dsimp only at hSw); go_simp; try with_reducible rfl)
      try simp only [Act.put, sB, sC, sD]
      refine wpAnyH_take (i := 12) (oi := ⟨some 38, Op.load 68 (Operand.tmp 7), 68, "ref.go:55", #[eG 6], some (6, false)⟩) (v := ?_) rfl (by kernel_rfl) (by kernel_rfl) (by kernel_rfl) (fun _ _ _ h => h) (Or.inl ⟨by rfl, ?_⟩) hS ?_
      rotate_left
      · (intro w' hSw; (try dsimp only at hSw); go_simp; try with_reducible rfl)
      try simp only [Act.put, sB, sC, sD]
      refine wpAnyH_ready (rs := [11]) (by kernel_rfl) (by simp) ?_
      refine AllReadyH.cons (o := ⟨some 37, Op.call { callee := Callee.value (Operand.func 31), args := #[Operand.tmp 36], argTypes := #[39] }, 68, "ref.go:55", #[eD 10, eC 6, eG 6], some (6, false)⟩) rfl (fun K hK => ?_) AllReadyH.nil
      go_simp
      (go_at_call_of 31 (Value.agg #[.bool R.up.neg, .slice R.up.at_ R.up.ds.length R.up.cap, .bool R.dn.neg, .slice R.dn.at_ R.dn.ds.length R.dn.cap]); (with_reducible refine (ROf3_any (hfx.below (hS.2.2.2.2.2.2.2.2) (Nat.le_refl _)) zx).mono ?_); rintro e wX ⟨rX, rfl, hX, hb1⟩)
      go_wp2_with fail
      refine hK.out _ _ (keepZ8 hS hb1) (fun hS => ?_)
      clear hK K hb1
      try simp only [Act.put, sB, sC, sD]
      refine wpAnyH_ready (rs := [13]) (by kernel_rfl) (by simp) ?_
      refine AllReadyH.cons (o := ⟨some 39, Op.call { callee := Callee.value (Operand.func 30), args := #[Operand.tmp 37, Operand.tmp 38], argTypes := #[68, 68] }, 3, "ref.go:55", #[eD 11, eD 12, eC 11, eG 6], some (6, false)⟩) rfl (fun K hK => ?_) AllReadyH.nil
      go_simp
      (go_at_call 30; (with_reducible refine (RCmp2_at hX (hzv.below (hS.2.2.2.2.2.2.2.2) (Nat.le_refl _)) zx z0q HC.out).mono ?_); rintro e wC ⟨rfl, hb1⟩)
      go_wp2_with fail
      refine hK.out _ _ (keepZ8 hS hb1) (fun hS => ?_)
      clear hK K hb1
      try simp only [Act.put, sB, sC, sD]
      refine wpAnyH_take (i := 14) (oi := ⟨some 40, Op.binOp BinOp.lss 3 (Operand.tmp 39) (Operand.const (Value.int IntKind.i64 0)) 3, 4, "ref.go:55", #[eD 13, eG 6], some (6, false)⟩) (v := ?_) rfl (by kernel_rfl) (by kernel_rfl) (by kernel_rfl) (fun _ _ _ h => h) (Or.inl ⟨by rfl, ?_⟩) hS ?_
      rotate_left
      · (intro w' hSw; (try dsimp only at hSw); go_simp; try with_reducible rfl)
      try simp only [Act.put, sB, sC, sD]
      refine wpAnyH_take (i := 15) (oi := ⟨some 41, Op.pick (Operand.tmp 32) (Operand.const (Value.bool true)) (Operand.tmp 40), 4, "ref.go:55", #[eD 6, eD 14], none⟩) (v := ?_) rfl (by kernel_rfl) (by kernel_rfl) (by kernel_rfl) (fun _ _ _ h => h) (Or.inl ⟨by rfl, ?_⟩) hS ?_
      rotate_left
      · (intro w' hSw; (try dsimp only at hSw); go_simp; try with_reducible rfl)
      try simp only [Act.put, sB, sC, sD]
      refine wpAnyH_done (by kernel_rfl) ?_ _
      have hSB : Below wr.heap.size wr _ := (hS.2.2.2.2.2.2.2.2)
      have hB3 := hB.trans ((hSB).mono hB.size)
      have h73 := h7.below hSB (Nat.le_refl _)
      have h83 := h8.below hSB (Nat.le_refl _)
      have hx3 := hfx.below hSB (Nat.le_refl _)
      obtain ⟨x0, x1, x2, x3, -, -, -, -, -⟩ := hS
      clear z0 z1 z2 z3 hblk hzv h7 h8 hfx hok hSB hB e1 e2
      go_wp2_with fail
      obtain ⟨_, _, _, _, _, hmost⟩ := HR.out j hj
      obtain ⟨yn, ya, yl, yk, ym, yb, yi, yj, y0, y1, y2, y3, hy⟩ := hmost.below hB3 (Nat.le_refl _)
      have zM := HZ.out.M j hj
      have zP := HZ.out.PM j hj
      have zs := HZ.out.TM j (by omega)
      have HE : Hid ((sumR j fun i => y i * S.most i) + y j * S.most j = sumR (j + 1) fun i => y i * S.most i) := hide rfl
      have h8' := h83
      generalize (sumR j fun i => y i * S.most i) = q at *
      obtain ⟨zn, za, zl, zk, zm, zb, zi, zj, hblk, hzv⟩ := h8'
      obtain ⟨z0, z1, z2, z3, -⟩ := hblk.c4
      refine wp_region_till (S := fun w' => w'.cell? ⟨g8, 0, none⟩ = some (.bool zn) ∧ w'.cell? ⟨g8, 1, none⟩ = some (.slice za zl zk) ∧ w'.cell? ⟨g8, 2, none⟩ = some (.bool zm) ∧ w'.cell? ⟨g8, 3, none⟩ = some (.slice zb zi zj) ∧ w'.cell? ⟨gy, oy + j * 4, none⟩ = some (.bool R.up.neg) ∧ w'.cell? ⟨gy, oy + j * 4 + 1, none⟩ = some (.slice R.up.at_ R.up.ds.length R.up.cap) ∧ w'.cell? ⟨gy, oy + j * 4 + 2, none⟩ = some (.bool R.dn.neg) ∧ w'.cell? ⟨gy, oy + j * 4 + 3, none⟩ = some (.slice R.dn.at_ R.dn.ds.length R.dn.cap) ∧ w'.cell? ⟨b, o + j * 5 + 1, none⟩ = some (.bool yn) ∧ w'.cell? ⟨b, o + j * 5 + 1 + 1, none⟩ = some (.slice ya yl yk) ∧ w'.cell? ⟨b, o + j * 5 + 1 + 2, none⟩ = some (.bool ym) ∧ w'.cell? ⟨b, o + j * 5 + 1 + 3, none⟩ = some (.slice yb yi yj) ∧ Below wC.heap.size wC w') (fun i => decide (i < 14)) (by kernel_rfl) (⟨z0, z1, z2, z3, x0, x1, x2, x3, y0, y1, y2, y3, (Below.refl _ _).drew⟩) (fun hS => ?_)
      refine Till_take (i := 0) (oi := ⟨some 42, Op.load 68 (Operand.tmp 8), 68, "ref.go:58", #[], none⟩) (v := ?_) rfl (by kernel_rfl) (by kernel_rfl) (by kernel_rfl) (fun _ _ _ h => h) rfl (by kernel_rfl) (Or.inl ⟨by rfl, ?_⟩) hS ?_
      rotate_left
      · (intro w' hSw; (try dsimp only at hSw); go_simp; try with_reducible rfl)
      try simp only [Act.put, sB, sC, sD]
      refine Till_take (i := 1) (oi := ⟨some 43, Op.move (Operand.tmp 2), 25, "ref.go:58", #[], none⟩) (v := ?_) rfl (by kernel_rfl) (by kernel_rfl) (by kernel_rfl) (fun _ _ _ h => h) rfl (by kernel_rfl) (Or.inl ⟨by rfl, ?_⟩) hS ?_
      rotate_left
      · (intro w' hSw; (try dsimp only at hSw); go_simp; try with_reducible rfl)
      try simp only [Act.put, sB, sC, sD]
      refine Till_take (i := 2) (oi := ⟨some 44, Op.move (Operand.tmp 9), 3, "ref.go:58", #[], none⟩) (v := ?_) rfl (by kernel_rfl) (by kernel_rfl) (by kernel_rfl) (fun _ _ _ h => h) rfl (by kernel_rfl) (Or.inl ⟨by rfl, ?_⟩) hS ?_
      rotate_left
      · (intro w' hSw; (try dsimp only at hSw); go_simp; try with_reducible rfl)
      try simp only [Act.put, sB, sC, sD]
      refine Till_take (i := 3) (oi := ⟨some 45, Op.indexAddr 25 (Operand.tmp 43) (Operand.tmp 44), 0, "ref.go:58", #[eD 1, eD 2], none⟩) (v := ?_) rfl (by kernel_rfl) (by kernel_rfl) (by kernel_rfl) (fun _ _ _ h => h) rfl (by kernel_rfl) (Or.inl ⟨by rfl, ?_⟩) hS ?_
      rotate_left
      · (intro w' hSw; (try dsimp only at hSw); go_simp; try with_reducible rfl)
      try simp only [Act.put, sB, sC, sD]
      refine Till_take (i := 4) (oi := ⟨some 46, Op.load 39 (Operand.tmp 45), 39, "ref.go:58", #[eD 3], none⟩) (v := ?_) rfl (by kernel_rfl) (by kernel_rfl) (by kernel_rfl) (fun _ _ _ h => h) rfl (by kernel_rfl) (Or.inl ⟨by rfl, ?_⟩) hS ?_
      rotate_left
      · (intro w' hSw; (try dsimp only at hSw); go_simp; try with_reducible rfl)
      try simp only [Act.put, sB, sC, sD]
      refine Till_take (i := 6) (oi := ⟨some 48, Op.move (Operand.tmp 1), 31, "ref.go:58", #[], none⟩) (v := ?_) rfl (by kernel_rfl) (by kernel_rfl) (by kernel_rfl) (fun _ _ _ h => h) rfl (by kernel_rfl) (Or.inl ⟨by rfl, ?_⟩) hS ?_
      rotate_left
      · (intro w' hSw; (try dsimp only at hSw); go_simp; try with_reducible rfl)
      try simp only [Act.put, sB, sC, sD]
      refine Till_take (i := 7) (oi := ⟨some 49, Op.move (Operand.tmp 9), 3, "ref.go:58", #[], none⟩) (v := ?_) rfl (by kernel_rfl) (by kernel_rfl) (by kernel_rfl) (fun _ _ _ h => h) rfl (by kernel_rfl) (Or.inl ⟨by rfl, ?_⟩) hS ?_
      rotate_left
      · (intro w' hSw; (try dsimp only at hSw); go_simp; try with_reducible rfl)
      try simp only [Act.put, sB, sC, sD]
      refine Till_take (i := 8) (oi := ⟨some 50, Op.indexAddr 31 (Operand.tmp 48) (Operand.tmp 49), 0, "ref.go:58", #[eD 6, eD 7], none⟩) (v := ?_) rfl (by kernel_rfl) (by kernel_rfl) (by kernel_rfl) (fun _ _ _ h => h) rfl (by kernel_rfl) (Or.inl ⟨by rfl, ?_⟩) hS ?_
      rotate_left
      · (intro w' hSw; (try dsimp only at hSw); go_simp; try with_reducible rfl)
      try simp only [Act.put, sB, sC, sD]
      refine Till_take (i := 9) (oi := ⟨some 51, Op.fieldAddr 44 (Operand.tmp 50) 1, 0, "ref.go:58", #[eD 8], none⟩) (v := ?_) rfl (by kernel_rfl) (by kernel_rfl) (by kernel_rfl) (fun _ _ _ h => h) rfl (by kernel_rfl) (Or.inl ⟨by rfl, ?_⟩) hS ?_
      rotate_left
      · (intro w' hSw; (try dsimp only at hSw); go_simp; try with_reducible rfl)
      try simp only [Act.put, sB, sC, sD]
      refine Till_take (i := 10) (oi := ⟨some 52, Op.load 39 (Operand.tmp 51), 39, "ref.go:58", #[eD 9], none⟩) (v := ?_) rfl (by kernel_rfl) (by kernel_rfl) (by kernel_rfl) (fun _ _ _ h => h) rfl (by kernel_rfl) (Or.inl ⟨by rfl, ?_⟩) hS ?_
      rotate_left
      · (intro w' hSw; (try dsimp only at hSw); go_simp; try with_reducible rfl)
      try simp only [Act.put, sB, sC, sD]
      refine Till_ready (rs := [5]) (by kernel_rfl) (by kernel_rfl) (by simp) ?_
      refine AllReadyT.cons (o := ⟨some 47, Op.call { callee := Callee.value (Operand.func 31), args := #[Operand.tmp 46], argTypes := #[39] }, 68, "ref.go:58", #[eD 4], none⟩) rfl (fun K hK => ?_) AllReadyT.nil
      go_simp
      (go_at_call_of 31 (Value.agg #[.bool R.up.neg, .slice R.up.at_ R.up.ds.length R.up.cap, .bool R.dn.neg, .slice R.dn.at_ R.dn.ds.length R.dn.cap]); (with_reducible refine (ROf3_any (hx3.below (hS.2.2.2.2.2.2.2.2.2.2.2.2) (Nat.le_refl _)) zx).mono ?_); rintro e wX ⟨rX, rfl, hX, hb1⟩)
      go_wp2_with fail
      refine hK.out _ _ (keepZ12 hS hb1) (fun hS => ?_)
      clear hK K hb1
      try simp only [Act.put, sB, sC, sD]
      refine Till_ready (rs := [11]) (by kernel_rfl) (by kernel_rfl) (by simp) ?_
      refine AllReadyT.cons (o := ⟨some 53, Op.call { callee := Callee.value (Operand.func 31), args := #[Operand.tmp 52], argTypes := #[39] }, 68, "ref.go:58", #[eD 10, eC 5], none⟩) rfl (fun K hK => ?_) AllReadyT.nil
      go_simp
      (go_at_call_of 31 (Value.agg #[.bool yn, .slice ya yl yk, .bool ym, .slice yb yi yj]); (with_reducible refine (ROf3_any (hy.below (hS.2.2.2.2.2.2.2.2.2.2.2.2) (Nat.le_refl _)) zM).mono ?_); rintro e wY ⟨rY, rfl, hY, hb1⟩)
      replace hX := hX.below hb1 (Nat.le_refl _)
      go_wp2_with fail
      refine hK.out _ _ (keepZ12 hS hb1) (fun hS => ?_)
      clear hK K hb1
      try simp only [Act.put, sB, sC, sD]
      refine Till_ready (rs := [12]) (by kernel_rfl) (by kernel_rfl) (by simp) ?_
      refine AllReadyT.cons (o := ⟨some 54, Op.call { callee := Callee.value (Operand.func 33), args := #[Operand.tmp 47, Operand.tmp 53], argTypes := #[68, 68] }, 68, "ref.go:58", #[eD 5, eD 11, eC 11], none⟩) rfl (fun K hK => ?_) AllReadyT.nil
      go_simp
      (go_at_call 33; (with_reducible refine (RMul2_any _ hX hY zx zM).mono ?_); rintro e wP ⟨rP, rfl, hP, hb1⟩)
      go_wp2_with fail
      refine hK.out _ _ (keepZ12 hS hb1) (fun hS => ?_)
      clear hK K hb1
      try simp only [Act.put, sB, sC, sD]
      refine Till_ready (rs := [13]) (by kernel_rfl) (by kernel_rfl) (by simp) ?_
      refine AllReadyT.cons (o := ⟨some 55, Op.call { callee := Callee.value (Operand.func 32), args := #[Operand.tmp 42, Operand.tmp 54], argTypes := #[68, 68] }, 68, "ref.go:58", #[eD 0, eD 12, eC 12], none⟩) rfl (fun K hK => ?_) AllReadyT.nil
      go_simp
      (go_at_call 32; (with_reducible refine (RAdd2_any _ (hzv.below (hS.2.2.2.2.2.2.2.2.2.2.2.2) (Nat.le_refl _)) hP zs zP).mono ?_); rintro e wN ⟨rN, rfl, hN, hb1⟩)
      obtain ⟨un, ua, ul, uk, um, ub, ui, uj, rfl, -, -⟩ := RFracV.parts hN
      go_wp2_with fail
      refine hK.out _ _ (keepZ12 hS hb1) (fun hS => ?_)
      clear hK K hb1
      try simp only [Act.put, sB, sC, sD]
      refine Till_turn (by kernel_rfl) ?_
      refine wpAnyH_ready (rs := [14]) (by kernel_rfl) (by simp) ?_
      refine AllReadyH.cons (o := ⟨none, Op.store 68 (Operand.tmp 8) (Operand.tmp 55), 0, "ref.go:58", #[eD 13, eC 13, eP 0, eP 1, eP 2, eP 3, eP 4, eP 5, eP 6, eP 7, eP 8, eP 9, eP 10, eP 11, eP 12, eP 13], none⟩) rfl (fun K hK => ?_) AllReadyH.nil
      have hb3 := h83.below (hS.2.2.2.2.2.2.2.2.2.2.2.2) (Nat.le_refl _)
      obtain ⟨_, _, _, _, _, _, _, _, hblk3, _⟩ := hb3
      have hb3 := h83.below (hS.2.2.2.2.2.2.2.2.2.2.2.2) (Nat.le_refl _)
      obtain ⟨t0, t1, t2, t3, tf⟩ := hblk3.c4
      have f0 := tf 0
      have f1 := tf 1
      have f2 := tf 2
      have f3 := tf 3
      obtain ⟨w3, hw3⟩ : ∃ w3, (((wN.setCell ⟨g8, 0, none⟩ (.bool un)).setCell ⟨g8, 1, none⟩ (.slice ua ul uk)).setCell ⟨g8, 2, none⟩ (.bool um)).setCell ⟨g8, 3, none⟩ (.slice ub ui uj) = w3 := ⟨_, rfl⟩
      have hb4 : RBox w3 g8 (q + y j * S.most j) := by rw [← hw3]; exact hb3.put hN
      have h74 : RBox w3 g7 0 := by rw [← hw3]; exact hb3.keep (h73.below (hS.2.2.2.2.2.2.2.2.2.2.2.2) (Nat.le_refl _)) h78 _ _ _ _
      have hB4 : Below w.heap.size w w3 := by rw [← hw3]; exact set4b (hB3.trans ((hS.2.2.2.2.2.2.2.2.2.2.2.2).mono hB3.size)) hle8 _ _ _ _
      have HW3 := hide hw3
      clear hw3 tf
      go_simp
      refine hK.out _ _ trivial (fun _ => ?_)
      clear hK K t0 t1 t2 t3 f0 f1 f2 f3
      try simp only [Act.put, sB, sC, sD]
      refine wpAnyH_done (by kernel_rfl) ?_ _
      rw [HW3.out]
      clear HW3 hS z0 z1 z2 z3 x0 x1 x2 x3 y0 y1 y2 y3
      go_wp2_with fail
      go_roundg (gk - 1)
      case measure => omega
      case rel => exact ⟨j + 1, by omega, by go_num, hB4, h74, by rw [← HE.out]; exact hb4⟩
end Go.Proofs.YtphjffbldhhdiaaGreatDoor
