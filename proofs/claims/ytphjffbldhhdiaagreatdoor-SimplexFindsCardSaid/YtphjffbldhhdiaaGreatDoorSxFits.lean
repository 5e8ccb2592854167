/- collatorref17.Fits: by its contract. -/
import Derived.Test.YtphjffbldhhdiaaGreatDoorSxTill
import Derived.Test.YtphjffbldhhdiaaGreatDoorSxRight
namespace Go.Proofs.YtphjffbldhhdiaaGreatDoor
open Go.RowKit

/-- A box that holds one of the document's fractions. -/
def RBox (w : World) (g : Nat) (q : Rat) : Prop := ∃ (n : Bool) (a : Option Addr) (l k : Nat) (m : Bool) (b : Option Addr) (i j : Nat), Blk w g 68 #[.bool n, .slice a l k, .bool m, .slice b i j] ∧ RFracV w (.agg #[.bool n, .slice a l k, .bool m, .slice b i j]) q
section
variable {w w' : World} {g g' B : Nat} {q p : Rat} {n m : Bool} {a b : Option Addr} {l k i j : Nat}
theorem RBox.lt (h : RBox w g q) : g < w.heap.size := by
  obtain ⟨_, _, _, _, _, _, _, _, h, _⟩ := h
  exact h.lt
theorem RBox.below (h : RBox w g q) (hb : Below B w w') (hB : w.heap.size ≤ B) : RBox w' g q := by
  obtain ⟨n, a, l, k, m, b, i, j, h1, h2⟩ := h
  exact ⟨n, a, l, k, m, b, i, j, h1.below hb (Nat.lt_of_lt_of_le h1.lt hB), h2.below hb hB⟩
theorem RBox.drew (h : RBox w g q) : RBox w.drew g q := h
theorem RBox.new (h : RFracV w (.agg #[.bool n, .slice a l k, .bool m, .slice b i j]) q) : RBox (w.alloc (.cells #[.bool n, .slice a l k, .bool m, .slice b i j] 68)) w.heap.size q :=
  ⟨n, a, l, k, m, b, i, j, Blk.new _ _ _, h.allocd _⟩
/-- What the box holds after a store. -/
theorem RBox.put (h : RBox w g p) (hq : RFracV w (.agg #[.bool n, .slice a l k, .bool m, .slice b i j]) q) : RBox ((((w.setCell ⟨g, 0, none⟩ (.bool n)).setCell ⟨g, 1, none⟩ (.slice a l k)).setCell ⟨g, 2, none⟩ (.bool m)).setCell ⟨g, 3, none⟩ (.slice b i j)) g q := by
  obtain ⟨_, _, _, _, _, _, _, _, h1, _⟩ := h
  exact ⟨n, a, l, k, m, b, i, j, h1.four _ _ _ _, hq.st4 h1 _ _ _ _⟩
/-- Another box is as it was. -/
theorem RBox.keep (h : RBox w g p) (h' : RBox w g' q) (hne : g' ≠ g) (x y z u : Value) : RBox ((((w.setCell ⟨g, 0, none⟩ x).setCell ⟨g, 1, none⟩ y).setCell ⟨g, 2, none⟩ z).setCell ⟨g, 3, none⟩ u) g' q := by
  obtain ⟨_, _, _, _, _, _, _, _, h1, _⟩ := h
  obtain ⟨n, a, l, k, m, b, i, j, h2, h3⟩ := h'
  exact ⟨n, a, l, k, m, b, i, j, (((h2.far hne _).far hne _).far hne _).far hne _, h3.st4 h1 _ _ _ _⟩
end
theorem ROf3_any {q : Rat} {u : Value} {w : World} (hx : FracV w u q) (hq : Qr q) : Calls Tryz.prog 31 #[u] w (RFracPost w q) := by
  have h1 : len q.num ≤ 1000000000 := Nat.le_trans hq.1 (by decide)
  have h2 : len (und q) ≤ 1000000000 := Nat.le_trans (len_und hq) (by decide)
  refine (ROf2_any w hx.fr h1 h2).mono ?_
  rintro e w' ⟨r, he, hr, hb⟩
  rw [ben_und] at hr
  exact ⟨r, he, hr, hb⟩
/-- The sums of a row's products are not too great. -/
structure FitSz (S : Sys) (x : Nat → Rat) : Prop where
  n : S.n ≤ 1000
  m : S.m ≤ 1000
  X : ∀ c, c < S.n → Qr (x c)
  A : ∀ i c, i < S.m → c < S.n → Qr (S.A i c)
  P : ∀ i c, i < S.m → c < S.n → Qr (S.A i c * x c)
  T : ∀ i c, i < S.m → c ≤ S.n → Qr (sumR c fun k => S.A i k * x k)
  M : ∀ i, i < S.m → Qr (S.most i)
theorem FitSz.of {S : Sys} {x : Nat → Rat} {k1 k2 k3 : Nat} (hn : S.n ≤ 1000) (hm : S.m ≤ 1000) (hA : ∀ i c, i < S.m → c < S.n → Qn k1 (S.A i c)) (hx : ∀ c, c < S.n → Qn k2 (x c)) (hM : ∀ i, i < S.m → Qn k3 (S.most i))
    (h1 : S.n * (k1 + k2 + 1) + 1 + k1 + k2 ≤ 100000000) (h3 : k3 ≤ 100000000) : FitSz S x where
  n := hn
  m := hm
  A := fun i c hi hc => (hA i c hi hc).r (by omega)
  X := fun c hc => (hx c hc).r (by omega)
  P := fun i c hi hc => (Qn.mul (hA i c hi hc) (hx c hc)).r (by omega)
  T := fun i c hi hc => by
    have h := sumR_size sizesQ (k := k1 + k2) (f := fun k => S.A i k * x k) c (fun k hk => Qn.mul (hA i k hi (by omega)) (hx k (by omega)))
    refine h.r ?_
    have : c * (k1 + k2 + 1) ≤ S.n * (k1 + k2 + 1) := Nat.mul_le_mul_right _ hc
    omega
  M := fun i hi => (hM i hi).r h3

set_option maxRecDepth 100000 in
set_option maxHeartbeats 6400000 in
theorem rfits_any {S : Sys} {x : Nat → Rat} {a av : Option Addr} {cap capv b o gv ov : Nat} (w : World) (hz : FitSz S x) (ha : 0 < S.m → a = some ⟨b, o, none⟩) (hR : RowsV w b o S) (hv : 0 < S.n → av = some ⟨gv, ov, none⟩) (hV : ∀ c, c < S.n → FAt w gv (ov + c * 4) (x c)) (hfit : S.Fits x) :
    Calls Tryz.prog 13 #[.slice a S.m cap, .slice av S.n capv] w fun e w' => e = .returned (.bool true) ∧ Below w.heap.size w w' := by
  have hn := hz.n
  have hm := hz.m
  have HZ := hide hz
  have HA := hide ha
  have HR := hide hR
  have HV := hide hv
  have HVV := hide hV
  have HF := hide hfit
  clear hz ha hR hv hV hfit
  go_enter Tryz.func13, Tryz.ntmps13
  go_wp2_with fail
  go_loopg [5] S.m (fun k v5 wr => ∃ j : Nat, j + k = S.m ∧ v5 = .int .i64 (j : Int) ∧ Below w.heap.size w wr)
  case atStart => exact ⟨0, by omega, rfl, Below.refl _ _⟩
  case round =>
    obtain ⟨j, hjk, rfl, hB⟩ := hrel
    rcases Nat.eq_zero_or_pos gk with h0 | h0
    · subst h0
      obtain rfl : j = S.m := by omega
      go_wp2_with fail
      go_ret
      exact ⟨rfl, hB⟩
    · have hj : j < S.m := by omega
      have ej : (j : Int) < (S.m : Int) := by omega
      obtain rfl := HA.out (by omega)
      go_wp2_with fail
      refine (RInt2_any 0 wr (by decide) (by decide)).mono ?_
      rintro e w1 ⟨r, rfl, hr, hb1⟩
      replace hr : RFracV w1 r 0 := hr
      obtain ⟨zn, za, zl, zk, zm, zb, zi, zj, rfl, -, -⟩ := hr.parts
      obtain ⟨w2, hw2⟩ : ∃ w2, w1.alloc (.cells #[.bool zn, .slice za zl zk, .bool zm, .slice zb zi zj] 68) = w2 := ⟨_, rfl⟩
      have hbx : RBox w2 w1.heap.size 0 := by rw [← hw2]; exact RBox.new hr
      have hB1 := hB.trans (hb1.mono hB.size)
      have hB2 : Below w.heap.size w w2 := by rw [← hw2]; exact hB1.alloc hB1.size _
      have hg : w.heap.size ≤ w1.heap.size := hB1.size
      have HW2 := hide hw2
      obtain ⟨g, hgg⟩ : ∃ g, w1.heap.size = g := ⟨_, rfl⟩
      rw [hgg] at hbx hg
      have HG := hide hgg
      clear hw2 hgg hr hb1 hB1 hB
      go_wp2_with fail
      rw [HW2.out, HG.out]
      clear HW2 HG
      obtain ⟨gk1, hK1⟩ : ∃ K1, K1 = gk := ⟨_, rfl⟩
      subst hK1
      go_loopg [7] S.n (fun k v7 wr => ∃ c : Nat, c + k = S.n ∧ v7 = .int .i64 (c : Int) ∧ Below w.heap.size w wr ∧ RBox wr g (sumR c fun k => S.A j k * x k))
      case atStart => exact ⟨0, by omega, rfl, hB2, hbx⟩
      case round =>
        clear hbx hB2
        obtain ⟨c, hck, rfl, hB, hbx⟩ := hrel
        obtain ⟨zn, za, zl, zk, zm, zb, zi, zj, hblk, hzv⟩ := hbx
        rcases Nat.eq_zero_or_pos gk with h0 | h0
        · subst h0
          obtain rfl : c = S.n := by omega
          obtain ⟨_, _, _, _, _, hmost⟩ := HR.out j hj
          obtain ⟨xn, xa, xl, xk, xm, xb, xi, xj, x0, x1, x2, x3, hx⟩ := hmost.below hB (Nat.le_refl _)
          have zs := HZ.out.T j S.n hj (Nat.le_refl _)
          have zmm := HZ.out.M j hj
          obtain ⟨C, hC⟩ : ∃ C, ordQ (sumR S.n fun k => S.A j k * x k) (S.most j) = C := ⟨_, rfl⟩
          have e1 : decide (0 < C) = false := decide_eq_false (fun h => by
            rw [← hC] at h
            have h1 := (ordQ_pos _ _).1 h
            have h2 := HF.out j hj
            grind)
          have e2 : ¬0 < C := of_decide_eq_false e1
          have HC := hide hC
          clear hC hck
          obtain ⟨z0, z1, z2, z3, -⟩ := hblk.c4
          go_upto_region 9 with (fail)
          refine wp_region_held_drew (S := fun w' => w'.cell? ⟨g, 0, none⟩ = some (.bool zn) ∧ w'.cell? ⟨g, 1, none⟩ = some (.slice za zl zk) ∧ w'.cell? ⟨g, 2, none⟩ = some (.bool zm) ∧ w'.cell? ⟨g, 3, none⟩ = some (.slice zb zi zj) ∧ w'.cell? ⟨b, o + j * 5 + 1, none⟩ = some (.bool xn) ∧ w'.cell? ⟨b, o + j * 5 + 1 + 1, none⟩ = some (.slice xa xl xk) ∧ w'.cell? ⟨b, o + j * 5 + 1 + 2, none⟩ = some (.bool xm) ∧ w'.cell? ⟨b, o + j * 5 + 1 + 3, none⟩ = some (.slice xb xi xj) ∧ Below wr.heap.size wr w') (by kernel_rfl) (⟨z0, z1, z2, z3, x0, x1, x2, x3, (Below.refl _ _).drew⟩) (fun hS => ?_)
          refine wpAnyH_take (i := 0) (oi := ⟨some 38, Op.load 68 (Operand.tmp 6), 68, "ref.go:40", #[], none⟩) (v := ?_) rfl (by kernel_rfl) (by kernel_rfl) (by kernel_rfl) (fun _ _ _ h => h) (Or.inl ⟨by rfl, ?_⟩) hS ?_
          rotate_left
          · (intro w' hSw; (try dsimp only at hSw); go_simp; try with_reducible rfl)
          try simp only [Act.put, sB, sC, sD]
          refine wpAnyH_take (i := 1) (oi := ⟨some 39, Op.move (Operand.tmp 0), 31, "ref.go:40", #[], none⟩) (v := ?_) rfl (by kernel_rfl) (by kernel_rfl) (by kernel_rfl) (fun _ _ _ h => h) (Or.inl ⟨by rfl, ?_⟩) hS ?_
          rotate_left
          · (intro w' hSw; (try dsimp only at hSw); go_simp; try with_reducible rfl)
          try simp only [Act.put, sB, sC, sD]
          refine wpAnyH_take (i := 2) (oi := ⟨some 40, Op.move (Operand.tmp 5), 3, "ref.go:40", #[], none⟩) (v := ?_) rfl (by kernel_rfl) (by kernel_rfl) (by kernel_rfl) (fun _ _ _ h => h) (Or.inl ⟨by rfl, ?_⟩) hS ?_
          rotate_left
          · (intro w' hSw; (try dsimp only at hSw); go_simp; try with_reducible rfl)
          try simp only [Act.put, sB, sC, sD]
          refine wpAnyH_take (i := 3) (oi := ⟨some 41, Op.indexAddr 31 (Operand.tmp 39) (Operand.tmp 40), 0, "ref.go:40", #[eD 1, eD 2], none⟩) (v := ?_) rfl (by kernel_rfl) (by kernel_rfl) (by kernel_rfl) (fun _ _ _ h => h) (Or.inl ⟨by rfl, ?_⟩) hS ?_
          rotate_left
          · (intro w' hSw; (try dsimp only at hSw); go_simp; try with_reducible rfl)
          try simp only [Act.put, sB, sC, sD]
          refine wpAnyH_take (i := 4) (oi := ⟨some 42, Op.fieldAddr 44 (Operand.tmp 41) 1, 0, "ref.go:40", #[eD 3], none⟩) (v := ?_) rfl (by kernel_rfl) (by kernel_rfl) (by kernel_rfl) (fun _ _ _ h => h) (Or.inl ⟨by rfl, ?_⟩) hS ?_
          rotate_left
          · (intro w' hSw; (try dsimp only at hSw); go_simp; try with_reducible rfl)
          try simp only [Act.put, sB, sC, sD]
          refine wpAnyH_take (i := 5) (oi := ⟨some 43, Op.load 39 (Operand.tmp 42), 39, "ref.go:40", #[eD 4], none⟩) (v := ?_) rfl (by kernel_rfl) (by kernel_rfl) (by kernel_rfl) (fun _ _ _ h => h) (Or.inl ⟨by rfl, ?_⟩) hS ?_
          rotate_left
          · (intro w' hSw; (try dsimp only at hSw); go_simp; try with_reducible rfl)
          try simp only [Act.put, sB, sC, sD]
          refine wpAnyH_ready (rs := [6]) (by kernel_rfl) (by simp) ?_
          refine AllReadyH.cons (o := ⟨some 44, Op.call { callee := Callee.value (Operand.func 31), args := #[Operand.tmp 43], argTypes := #[39] }, 68, "ref.go:40", #[eD 5], none⟩) rfl (fun K hK => ?_) AllReadyH.nil
          go_simp
          (go_at_call_of 31 (Value.agg #[.bool xn, .slice xa xl xk, .bool xm, .slice xb xi xj]); (with_reducible refine (ROf3_any (hx.below (hS.2.2.2.2.2.2.2.2) (Nat.le_refl _)) zmm).mono ?_); rintro e wX ⟨rX, rfl, hX, hb1⟩)
          go_wp2_with fail
          refine hK.out _ _ (keepZ8 hS hb1) (fun hS => ?_)
          clear hK K hb1
          try simp only [Act.put, sB, sC, sD]
          refine wpAnyH_ready (rs := [7]) (by kernel_rfl) (by simp) ?_
          refine AllReadyH.cons (o := ⟨some 45, Op.call { callee := Callee.value (Operand.func 30), args := #[Operand.tmp 38, Operand.tmp 44], argTypes := #[68, 68] }, 3, "ref.go:40", #[eD 0, eD 6, eC 6], none⟩) rfl (fun K hK => ?_) AllReadyH.nil
          go_simp
          (go_at_call 30; (with_reducible refine (RCmp2_at (hzv.below (hS.2.2.2.2.2.2.2.2) (Nat.le_refl _)) hX zs zmm HC.out).mono ?_); rintro e wC ⟨rfl, hb1⟩)
          go_wp2_with fail
          refine hK.out _ _ (keepZ8 hS hb1) (fun hS => ?_)
          clear hK K hb1
          try simp only [Act.put, sB, sC, sD]
          refine wpAnyH_take (i := 8) (oi := ⟨some 46, Op.binOp BinOp.gtr 3 (Operand.tmp 45) (Operand.const (Value.int IntKind.i64 0)) 3, 4, "ref.go:40", #[eD 7], none⟩) (v := ?_) rfl (by kernel_rfl) (by kernel_rfl) (by kernel_rfl) (fun _ _ _ h => h) (Or.inl ⟨by rfl, ?_⟩) hS ?_
          rotate_left
          · (intro w' hSw; (try dsimp only at hSw); go_simp; try with_reducible rfl)
          try simp only [Act.put, sB, sC, sD]
          refine wpAnyH_done (by kernel_rfl) ?_ _
          have hSB : Below wr.heap.size wr _ := (hS.2.2.2.2.2.2.2.2)
          have hB3 := hB.trans ((hSB).mono hB.size)
          clear hS z0 z1 z2 z3 x0 x1 x2 x3
          go_wp2_with fail
          go_roundg (gk1 - 1)
          case measure => omega
          case rel => exact ⟨j + 1, by omega, by go_num, hB3⟩
        · have hc : c < S.n := by omega
          have ec : (c : Int) < (S.n : Int) := by omega
          obtain rfl := HV.out (by omega)
          obtain ⟨ra, rk, r0, _, hrow0, _⟩ := HR.out j hj
          obtain ⟨rb, ro, rfl, hrow⟩ := hrow0 (by omega)
          clear hrow0
          obtain ⟨xn, xa, xl, xk, xm, xb, xi, xj, x0, x1, x2, x3, hx⟩ := (hrow c hc).below hB (Nat.le_refl _)
          obtain ⟨yn, ya, yl, yk, ym, yb, yi, yj, y0, y1, y2, y3, hy⟩ := (HVV.out c hc).below hB (Nat.le_refl _)
          replace r0 := cellB r0 hB (Nat.le_refl _)
          have zA := HZ.out.A j c hj hc
          have zx := HZ.out.X c hc
          have zP := HZ.out.P j c hj hc
          have zs := HZ.out.T j c hj (by omega)
          have hbx : RBox wr g (sumR c fun k => S.A j k * x k) := ⟨zn, za, zl, zk, zm, zb, zi, zj, hblk, hzv⟩
          have HE : Hid ((sumR c fun k => S.A j k * x k) + S.A j c * x c = sumR (c + 1) fun k => S.A j k * x k) := hide rfl
          generalize (sumR c fun k => S.A j k * x k) = q at *
          replace hrow := hide hrow
          obtain ⟨z0, z1, z2, z3, -⟩ := hblk.c4
          go_upto_region 8 with (fail)
          refine wp_region_till (S := fun w' => w'.cell? ⟨g, 0, none⟩ = some (.bool zn) ∧ w'.cell? ⟨g, 1, none⟩ = some (.slice za zl zk) ∧ w'.cell? ⟨g, 2, none⟩ = some (.bool zm) ∧ w'.cell? ⟨g, 3, none⟩ = some (.slice zb zi zj) ∧ w'.cell? ⟨b, o + j * 5, none⟩ = some (.slice (some ⟨rb, ro, none⟩) S.n rk) ∧ w'.cell? ⟨rb, ro + c * 4, none⟩ = some (.bool xn) ∧ w'.cell? ⟨rb, ro + c * 4 + 1, none⟩ = some (.slice xa xl xk) ∧ w'.cell? ⟨rb, ro + c * 4 + 2, none⟩ = some (.bool xm) ∧ w'.cell? ⟨rb, ro + c * 4 + 3, none⟩ = some (.slice xb xi xj) ∧ w'.cell? ⟨gv, ov + c * 4, none⟩ = some (.bool yn) ∧ w'.cell? ⟨gv, ov + c * 4 + 1, none⟩ = some (.slice ya yl yk) ∧ w'.cell? ⟨gv, ov + c * 4 + 2, none⟩ = some (.bool ym) ∧ w'.cell? ⟨gv, ov + c * 4 + 3, none⟩ = some (.slice yb yi yj) ∧ Below wr.heap.size wr w') (fun i => decide (i < 17)) (by kernel_rfl) (⟨z0, z1, z2, z3, r0, x0, x1, x2, x3, y0, y1, y2, y3, (Below.refl _ _).drew⟩) (fun hS => ?_)
          refine Till_take (i := 0) (oi := ⟨some 21, Op.load 68 (Operand.tmp 6), 68, "ref.go:38", #[], none⟩) (v := ?_) rfl (by kernel_rfl) (by kernel_rfl) (by kernel_rfl) (fun _ _ _ h => h) rfl (by kernel_rfl) (Or.inl ⟨by rfl, ?_⟩) hS ?_
          rotate_left
          · (intro w' hSw; (try dsimp only at hSw); go_simp; try with_reducible rfl)
          try simp only [Act.put, sB, sC, sD]
          refine Till_take (i := 1) (oi := ⟨some 22, Op.move (Operand.tmp 0), 31, "ref.go:38", #[], none⟩) (v := ?_) rfl (by kernel_rfl) (by kernel_rfl) (by kernel_rfl) (fun _ _ _ h => h) rfl (by kernel_rfl) (Or.inl ⟨by rfl, ?_⟩) hS ?_
          rotate_left
          · (intro w' hSw; (try dsimp only at hSw); go_simp; try with_reducible rfl)
          try simp only [Act.put, sB, sC, sD]
          refine Till_take (i := 2) (oi := ⟨some 23, Op.move (Operand.tmp 5), 3, "ref.go:38", #[], none⟩) (v := ?_) rfl (by kernel_rfl) (by kernel_rfl) (by kernel_rfl) (fun _ _ _ h => h) rfl (by kernel_rfl) (Or.inl ⟨by rfl, ?_⟩) hS ?_
          rotate_left
          · (intro w' hSw; (try dsimp only at hSw); go_simp; try with_reducible rfl)
          try simp only [Act.put, sB, sC, sD]
          refine Till_take (i := 3) (oi := ⟨some 24, Op.indexAddr 31 (Operand.tmp 22) (Operand.tmp 23), 0, "ref.go:38", #[eD 1, eD 2], none⟩) (v := ?_) rfl (by kernel_rfl) (by kernel_rfl) (by kernel_rfl) (fun _ _ _ h => h) rfl (by kernel_rfl) (Or.inl ⟨by rfl, ?_⟩) hS ?_
          rotate_left
          · (intro w' hSw; (try dsimp only at hSw); go_simp; try with_reducible rfl)
          try simp only [Act.put, sB, sC, sD]
          refine Till_take (i := 4) (oi := ⟨some 25, Op.fieldAddr 44 (Operand.tmp 24) 0, 0, "ref.go:38", #[eD 3], none⟩) (v := ?_) rfl (by kernel_rfl) (by kernel_rfl) (by kernel_rfl) (fun _ _ _ h => h) rfl (by kernel_rfl) (Or.inl ⟨by rfl, ?_⟩) hS ?_
          rotate_left
          · (intro w' hSw; (try dsimp only at hSw); go_simp; try with_reducible rfl)
          try simp only [Act.put, sB, sC, sD]
          refine Till_take (i := 5) (oi := ⟨some 26, Op.load 25 (Operand.tmp 25), 25, "ref.go:38", #[eD 4], none⟩) (v := ?_) rfl (by kernel_rfl) (by kernel_rfl) (by kernel_rfl) (fun _ _ _ h => h) rfl (by kernel_rfl) (Or.inl ⟨by rfl, ?_⟩) hS ?_
          rotate_left
          · (intro w' hSw; (try dsimp only at hSw); go_simp; try with_reducible rfl)
          try simp only [Act.put, sB, sC, sD]
          refine Till_take (i := 6) (oi := ⟨some 27, Op.move (Operand.tmp 7), 3, "ref.go:38", #[], none⟩) (v := ?_) rfl (by kernel_rfl) (by kernel_rfl) (by kernel_rfl) (fun _ _ _ h => h) rfl (by kernel_rfl) (Or.inl ⟨by rfl, ?_⟩) hS ?_
          rotate_left
          · (intro w' hSw; (try dsimp only at hSw); go_simp; try with_reducible rfl)
          try simp only [Act.put, sB, sC, sD]
          refine Till_take (i := 7) (oi := ⟨some 28, Op.indexAddr 25 (Operand.tmp 26) (Operand.tmp 27), 0, "ref.go:38", #[eD 5, eD 6], none⟩) (v := ?_) rfl (by kernel_rfl) (by kernel_rfl) (by kernel_rfl) (fun _ _ _ h => h) rfl (by kernel_rfl) (Or.inl ⟨by rfl, ?_⟩) hS ?_
          rotate_left
          · (intro w' hSw; (try dsimp only at hSw); go_simp; try with_reducible rfl)
          try simp only [Act.put, sB, sC, sD]
          refine Till_take (i := 8) (oi := ⟨some 29, Op.load 39 (Operand.tmp 28), 39, "ref.go:38", #[eD 7], none⟩) (v := ?_) rfl (by kernel_rfl) (by kernel_rfl) (by kernel_rfl) (fun _ _ _ h => h) rfl (by kernel_rfl) (Or.inl ⟨by rfl, ?_⟩) hS ?_
          rotate_left
          · (intro w' hSw; (try dsimp only at hSw); go_simp; try with_reducible rfl)
          try simp only [Act.put, sB, sC, sD]
          refine Till_take (i := 10) (oi := ⟨some 31, Op.move (Operand.tmp 1), 25, "ref.go:38", #[], none⟩) (v := ?_) rfl (by kernel_rfl) (by kernel_rfl) (by kernel_rfl) (fun _ _ _ h => h) rfl (by kernel_rfl) (Or.inl ⟨by rfl, ?_⟩) hS ?_
          rotate_left
          · (intro w' hSw; (try dsimp only at hSw); go_simp; try with_reducible rfl)
          try simp only [Act.put, sB, sC, sD]
          refine Till_take (i := 11) (oi := ⟨some 32, Op.move (Operand.tmp 7), 3, "ref.go:38", #[], none⟩) (v := ?_) rfl (by kernel_rfl) (by kernel_rfl) (by kernel_rfl) (fun _ _ _ h => h) rfl (by kernel_rfl) (Or.inl ⟨by rfl, ?_⟩) hS ?_
          rotate_left
          · (intro w' hSw; (try dsimp only at hSw); go_simp; try with_reducible rfl)
          try simp only [Act.put, sB, sC, sD]
          refine Till_take (i := 12) (oi := ⟨some 33, Op.indexAddr 25 (Operand.tmp 31) (Operand.tmp 32), 0, "ref.go:38", #[eD 10, eD 11], none⟩) (v := ?_) rfl (by kernel_rfl) (by kernel_rfl) (by kernel_rfl) (fun _ _ _ h => h) rfl (by kernel_rfl) (Or.inl ⟨by rfl, ?_⟩) hS ?_
          rotate_left
          · (intro w' hSw; (try dsimp only at hSw); go_simp; try with_reducible rfl)
          try simp only [Act.put, sB, sC, sD]
          refine Till_take (i := 13) (oi := ⟨some 34, Op.load 39 (Operand.tmp 33), 39, "ref.go:38", #[eD 12], none⟩) (v := ?_) rfl (by kernel_rfl) (by kernel_rfl) (by kernel_rfl) (fun _ _ _ h => h) rfl (by kernel_rfl) (Or.inl ⟨by rfl, ?_⟩) hS ?_
          rotate_left
          · (intro w' hSw; (try dsimp only at hSw); go_simp; try with_reducible rfl)
          try simp only [Act.put, sB, sC, sD]
          refine Till_ready (rs := [9]) (by kernel_rfl) (by kernel_rfl) (by simp) ?_
          refine AllReadyT.cons (o := ⟨some 30, Op.call { callee := Callee.value (Operand.func 31), args := #[Operand.tmp 29], argTypes := #[39] }, 68, "ref.go:38", #[eD 8], none⟩) rfl (fun K hK => ?_) AllReadyT.nil
          go_simp
          (go_at_call_of 31 (Value.agg #[.bool xn, .slice xa xl xk, .bool xm, .slice xb xi xj]); (with_reducible refine (ROf3_any (hx.below (hS.2.2.2.2.2.2.2.2.2.2.2.2.2) (Nat.le_refl _)) zA).mono ?_); rintro e wX ⟨rX, rfl, hX, hb1⟩)
          go_wp2_with fail
          refine hK.out _ _ (keepZ13 hS hb1) (fun hS => ?_)
          clear hK K hb1
          try simp only [Act.put, sB, sC, sD]
          refine Till_ready (rs := [14]) (by kernel_rfl) (by kernel_rfl) (by simp) ?_
          refine AllReadyT.cons (o := ⟨some 35, Op.call { callee := Callee.value (Operand.func 31), args := #[Operand.tmp 34], argTypes := #[39] }, 68, "ref.go:38", #[eD 13, eC 9], none⟩) rfl (fun K hK => ?_) AllReadyT.nil
          go_simp
          (go_at_call_of 31 (Value.agg #[.bool yn, .slice ya yl yk, .bool ym, .slice yb yi yj]); (with_reducible refine (ROf3_any (hy.below (hS.2.2.2.2.2.2.2.2.2.2.2.2.2) (Nat.le_refl _)) zx).mono ?_); rintro e wY ⟨rY, rfl, hY, hb1⟩)
          replace hX := hX.below hb1 (Nat.le_refl _)
          go_wp2_with fail
          refine hK.out _ _ (keepZ13 hS hb1) (fun hS => ?_)
          clear hK K hb1
          try simp only [Act.put, sB, sC, sD]
          refine Till_ready (rs := [15]) (by kernel_rfl) (by kernel_rfl) (by simp) ?_
          refine AllReadyT.cons (o := ⟨some 36, Op.call { callee := Callee.value (Operand.func 33), args := #[Operand.tmp 30, Operand.tmp 35], argTypes := #[68, 68] }, 68, "ref.go:38", #[eD 9, eD 14, eC 14], none⟩) rfl (fun K hK => ?_) AllReadyT.nil
          go_simp
          (go_at_call 33; (with_reducible refine (RMul2_any _ hX hY zA zx).mono ?_); rintro e wP ⟨rP, rfl, hP, hb1⟩)
          go_wp2_with fail
          refine hK.out _ _ (keepZ13 hS hb1) (fun hS => ?_)
          clear hK K hb1
          try simp only [Act.put, sB, sC, sD]
          refine Till_ready (rs := [16]) (by kernel_rfl) (by kernel_rfl) (by simp) ?_
          refine AllReadyT.cons (o := ⟨some 37, Op.call { callee := Callee.value (Operand.func 32), args := #[Operand.tmp 21, Operand.tmp 36], argTypes := #[68, 68] }, 68, "ref.go:38", #[eD 0, eD 15, eC 15], none⟩) rfl (fun K hK => ?_) AllReadyT.nil
          go_simp
          (go_at_call 32; (with_reducible refine (RAdd2_any _ (hzv.below (hS.2.2.2.2.2.2.2.2.2.2.2.2.2) (Nat.le_refl _)) hP zs zP).mono ?_); rintro e wN ⟨rN, rfl, hN, hb1⟩)
          obtain ⟨un, ua, ul, uk, um, ub, ui, uj, rfl, -, -⟩ := RFracV.parts hN
          go_wp2_with fail
          refine hK.out _ _ (keepZ13 hS hb1) (fun hS => ?_)
          clear hK K hb1
          try simp only [Act.put, sB, sC, sD]
          refine Till_turn (by kernel_rfl) ?_
          refine wpAnyH_ready (rs := [17]) (by kernel_rfl) (by simp) ?_
          refine AllReadyH.cons (o := ⟨none, Op.store 68 (Operand.tmp 6) (Operand.tmp 37), 0, "ref.go:38", #[eD 16, eC 16, eP 0, eP 1, eP 2, eP 3, eP 4, eP 5, eP 6, eP 7, eP 8, eP 9, eP 10, eP 11, eP 12, eP 13, eP 14, eP 15, eP 16], none⟩) rfl (fun K hK => ?_) AllReadyH.nil
          have hb3 := hbx.below (hS.2.2.2.2.2.2.2.2.2.2.2.2.2) (Nat.le_refl _)
          obtain ⟨_, _, _, _, _, _, _, _, hblk3, _⟩ := hb3
          have hb3 := hbx.below (hS.2.2.2.2.2.2.2.2.2.2.2.2.2) (Nat.le_refl _)
          obtain ⟨t0, t1, t2, t3, tf⟩ := hblk3.c4
          have f0 := tf 0
          have f1 := tf 1
          have f2 := tf 2
          have f3 := tf 3
          obtain ⟨w3, hw3⟩ : ∃ w3, (((wN.setCell ⟨g, 0, none⟩ (.bool un)).setCell ⟨g, 1, none⟩ (.slice ua ul uk)).setCell ⟨g, 2, none⟩ (.bool um)).setCell ⟨g, 3, none⟩ (.slice ub ui uj) = w3 := ⟨_, rfl⟩
          have hb4 : RBox w3 g (q + S.A j c * x c) := by rw [← hw3]; exact hb3.put hN
          have hB4 : Below w.heap.size w w3 := by rw [← hw3]; exact set4b (hB.trans ((hS.2.2.2.2.2.2.2.2.2.2.2.2.2).mono hB.size)) hg _ _ _ _
          have HW3 := hide hw3
          clear hw3 tf
          go_simp
          refine hK.out _ _ trivial (fun _ => ?_)
          clear hK K t0 t1 t2 t3 f0 f1 f2 f3
          try simp only [Act.put, sB, sC, sD]
          refine wpAnyH_done (by kernel_rfl) ?_ _
          rw [HW3.out]
          clear HW3 hS z0 z1 z2 z3 x0 x1 x2 x3 y0 y1 y2 y3 r0
          go_wp2_with fail
          go_roundg (gk - 1)
          case measure => omega
          case rel => exact ⟨c + 1, by omega, by go_num, hB4, by rw [← HE.out]; exact hb4⟩
end Go.Proofs.YtphjffbldhhdiaaGreatDoor
