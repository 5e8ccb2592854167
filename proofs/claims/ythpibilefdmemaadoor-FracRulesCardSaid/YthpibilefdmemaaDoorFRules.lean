/- The walk of the law FracRules. -/
import Derived.Test.YthpibilefdmemaaDoorFOdd
namespace Go.Proofs.YthpibilefdmemaaDoor
open Go.RowKit

set_option maxRecDepth 100000 in
set_option maxHeartbeats 6400000 in
theorem frules_walk (x y z : RFr) (w : World) (hx : RFrOk w x) (hy : RFrOk w y) (hz : RFrOk w z) (ht : Tab w) :
    Calls Tryd.prog 10 #[x.val, y.val, z.val] w fun e w' => e = .returned (.bool true) ∧ Below w.heap.size w w' := by
  obtain ⟨W, hW⟩ : ∃ W, (((w.alloc (.cells #[.bool x.up.neg, .slice x.up.at_ x.up.ds.length x.up.cap, .bool x.dn.neg, .slice x.dn.at_ x.dn.ds.length x.dn.cap] 58)).alloc (.cells #[.bool y.up.neg, .slice y.up.at_ y.up.ds.length y.up.cap, .bool y.dn.neg, .slice y.dn.at_ y.dn.ds.length y.dn.cap] 58)).alloc (.cells #[.bool z.up.neg, .slice z.up.at_ z.up.ds.length z.up.cap, .bool z.dn.neg, .slice z.dn.at_ z.dn.ds.length z.dn.cap] 58)) = W := ⟨_, rfl⟩
  have bx : Blk W w.heap.size 58 #[.bool x.up.neg, .slice x.up.at_ x.up.ds.length x.up.cap, .bool x.dn.neg, .slice x.dn.at_ x.dn.ds.length x.dn.cap] := by rw [← hW]; exact ((Blk.new w _ _).alloc _).alloc _
  have by_ : Blk W (w.heap.size + 1) 58 #[.bool y.up.neg, .slice y.up.at_ y.up.ds.length y.up.cap, .bool y.dn.neg, .slice y.dn.at_ y.dn.ds.length y.dn.cap] := by rw [← hW]; exact (Blk.new_at _ _ _ (by simp)).alloc _
  have bz : Blk W (w.heap.size + 1 + 1) 58 #[.bool z.up.neg, .slice z.up.at_ z.up.ds.length z.up.cap, .bool z.dn.neg, .slice z.dn.at_ z.dn.ds.length z.dn.cap] := by rw [← hW]; exact Blk.new_at _ _ _ (by simp)
  have sb : Below w.heap.size w W := by rw [← hW]; exact (((Below.refl w.heap.size w).alloc (Nat.le_refl _) _).alloc (by simp) _).alloc (by simp; omega) _
  unfold RFr.val
  go_enter Tryd.func10, Tryd.ntmps10
  go_wp2_with fail
  refine (fspeaks_any W (ht.atBelow sb (Nat.le_refl _))).mono ?_
  rintro e w1 ⟨rfl, hb1⟩
  replace bx := bx.below hb1 bx.lt
  replace by_ := by_.below hb1 by_.lt
  replace bz := bz.below hb1 bz.lt
  replace sb := sb.trans (hb1.mono sb.size)
  clear hb1
  obtain ⟨cx0, cx1, cx2, cx3, -⟩ := bx.c4
  obtain ⟨cy0, cy1, cy2, cy3, -⟩ := by_.c4
  obtain ⟨cz0, cz1, cz2, cz3, -⟩ := bz.c4
  go_wp2_with fail
  refine (fodd3 x y z w1 (hx.below sb (Nat.le_refl _)) (hy.below sb (Nat.le_refl _)) (hz.below sb (Nat.le_refl _))).mono ?_
  rintro e w2 ⟨o, rfl, hb2, hodd⟩
  replace bx := bx.below hb2 bx.lt
  replace by_ := by_.below hb2 by_.lt
  replace bz := bz.below hb2 bz.lt
  replace sb := sb.trans (hb2.mono sb.size)
  cases o with
  | true =>
    clear cx0 cx1 cx2 cx3 cy0 cy1 cy2 cy3 cz0 cz1 cz2 cz3
    go_wp2_with fail
    go_ret
    exact ⟨rfl, sb⟩
  | false =>
    obtain ⟨gx, gy, gz⟩ := hodd rfl
    obtain ⟨p, Hx, Lx⟩ := hx.frac gx
    obtain ⟨q, Hy, Ly⟩ := hy.frac gy
    obtain ⟨r, Hz, Lz⟩ := hz.frac gz
    clear cx0 cx1 cx2 cx3 cy0 cy1 cy2 cy3 cz0 cz1 cz2 cz3 gx gy gz hodd hx hy hz hb2 hW
    obtain ⟨⟨xn, xa, xk, xds⟩, ⟨xm, xb, xj, xes⟩⟩ := x
    obtain ⟨⟨yn, ya, yk, yds⟩, ⟨ym, yb, yj, yes⟩⟩ := y
    obtain ⟨⟨zn, za, zk, zds⟩, ⟨zm, zb, zj, zes⟩⟩ := z
    unfold RFr.val at Hx Hy Hz
    simp only at Hx Hy Hz bx by_ bz ⊢
    generalize xds.length = xl at *
    generalize xes.length = xi at *
    generalize yds.length = yl at *
    generalize yes.length = yi at *
    generalize zds.length = zl at *
    generalize zes.length = zi at *
    obtain ⟨cx0, cx1, cx2, cx3, -⟩ := bx.c4
    obtain ⟨cy0, cy1, cy2, cy3, -⟩ := by_.c4
    obtain ⟨cz0, cz1, cz2, cz3, -⟩ := bz.c4
    clear bx by_ bz
    have zx := Lx.z (by decide)
    have zy := Ly.z (by decide)
    have zz := Lz.z (by decide)
    have HD : Hid (Qz (p + q) ∧ Qz (q + r) ∧ Qz (p * q) ∧ Qz (p * r) ∧ Qz (p * (q + r)) ∧ Qz (-q) ∧ Qz (p + q + -q) ∧ Qz (p + r)) := hide ⟨(Lx.add Ly).z (by decide), (Ly.add Lz).z (by decide), (Lx.mul Ly).z (by decide), (Lx.mul Lz).z (by decide), (Lx.mul (Ly.add Lz)).z (by decide), Ly.neg.z (by decide), ((Lx.add Ly).add Ly.neg).z (by decide), (Lx.add Lz).z (by decide)⟩
    obtain ⟨zA, zB, zM, zN, zS, zG, zL, zC⟩ := HD.out
    have HE1 := hide (Rat.add_comm p q)
    have HE2 := hide (Rat.mul_comm p q)
    have HE3 := hide (Rat.mul_add p q r)
    have HE4 : Hid (p + q + -q = p) := hide (by grind)
    have lfl : len p.floor ≤ 5 := by rw [Rat.floor_def]; exact Nat.le_trans (len_le (div_small _ _)) Lx.1
    have sfl : Sm p.floor := Nat.le_trans lfl (by decide)
    have HQF : Hid (Qz (p.floor : Rat) ∧ Qz ((1 : Int) : Rat) ∧ Qz ((p.floor : Rat) + ((1 : Int) : Rat))) := hide (by
      have h1 : Qn 5 (p.floor : Rat) := Qn.int lfl (by decide)
      have h2 : Qn 1 ((1 : Int) : Rat) := Qn.int (dg_len BB2 (by decide)) (by decide)
      exact ⟨h1.z (by decide), h2.z (by decide), (h1.add h2).z (by decide)⟩)
    have HYL := hide (FracV.len Hy).1
    clear Lx Ly Lz HD lfl
    have sb1 := sb.drew
    go_upto_region 5 with (fail)
    go_cut [61] from 17 to 60 (fun v61 wc => v61 = .bool false ∧ (wc.cell? ⟨w.heap.size, 0, none⟩ = some (.bool xn) ∧ wc.cell? ⟨w.heap.size, 1, none⟩ = some (.slice xa xl xk) ∧ wc.cell? ⟨w.heap.size, 2, none⟩ = some (.bool xm) ∧ wc.cell? ⟨w.heap.size, 3, none⟩ = some (.slice xb xi xj) ∧ wc.cell? ⟨w.heap.size + 1, 0, none⟩ = some (.bool yn) ∧ wc.cell? ⟨w.heap.size + 1, 1, none⟩ = some (.slice ya yl yk) ∧ wc.cell? ⟨w.heap.size + 1, 2, none⟩ = some (.bool ym) ∧ wc.cell? ⟨w.heap.size + 1, 3, none⟩ = some (.slice yb yi yj) ∧ wc.cell? ⟨w.heap.size + 1 + 1, 0, none⟩ = some (.bool zn) ∧ wc.cell? ⟨w.heap.size + 1 + 1, 1, none⟩ = some (.slice za zl zk) ∧ wc.cell? ⟨w.heap.size + 1 + 1, 2, none⟩ = some (.bool zm) ∧ wc.cell? ⟨w.heap.size + 1 + 1, 3, none⟩ = some (.slice zb zi zj) ∧ Below w.heap.size w wc))
    case first =>
      refine wp_region_held_drew (S := fun w' => w'.cell? ⟨w.heap.size, 0, none⟩ = some (.bool xn) ∧ w'.cell? ⟨w.heap.size, 1, none⟩ = some (.slice xa xl xk) ∧ w'.cell? ⟨w.heap.size, 2, none⟩ = some (.bool xm) ∧ w'.cell? ⟨w.heap.size, 3, none⟩ = some (.slice xb xi xj) ∧ w'.cell? ⟨w.heap.size + 1, 0, none⟩ = some (.bool yn) ∧ w'.cell? ⟨w.heap.size + 1, 1, none⟩ = some (.slice ya yl yk) ∧ w'.cell? ⟨w.heap.size + 1, 2, none⟩ = some (.bool ym) ∧ w'.cell? ⟨w.heap.size + 1, 3, none⟩ = some (.slice yb yi yj) ∧ w'.cell? ⟨w.heap.size + 1 + 1, 0, none⟩ = some (.bool zn) ∧ w'.cell? ⟨w.heap.size + 1 + 1, 1, none⟩ = some (.slice za zl zk) ∧ w'.cell? ⟨w.heap.size + 1 + 1, 2, none⟩ = some (.bool zm) ∧ w'.cell? ⟨w.heap.size + 1 + 1, 3, none⟩ = some (.slice zb zi zj) ∧ Below w.heap.size w w') (by kernel_rfl) (⟨cx0, cx1, cx2, cx3, cy0, cy1, cy2, cy3, cz0, cz1, cz2, cz3, sb1⟩) (fun hS => ?_)
      refine wpAnyH_take (i := 0) (oi := { dst := some 17, op := Op.load 58 (Operand.tmp 3), type := 58, pos := "law.go:63", after := #[], guard := none }) (v := ?_) rfl (by kernel_rfl) (by kernel_rfl) (by kernel_rfl) (fun _ _ _ h => h) (Or.inl ⟨by rfl, ?_⟩) hS ?_
      rotate_left
      · (intro w' hSw; (try dsimp only at hSw); go_simp; try with_reducible rfl)
      try simp only [Act.put, List.setIfInBounds_toArray, List.set_cons_zero, List.set_cons_succ]
      refine wpAnyH_take (i := 1) (oi := { dst := some 18, op := Op.load 58 (Operand.tmp 4), type := 58, pos := "law.go:63", after := #[], guard := none }) (v := ?_) rfl (by kernel_rfl) (by kernel_rfl) (by kernel_rfl) (fun _ _ _ h => h) (Or.inl ⟨by rfl, ?_⟩) hS ?_
      rotate_left
      · (intro w' hSw; (try dsimp only at hSw); go_simp; try with_reducible rfl)
      try simp only [Act.put, List.setIfInBounds_toArray, List.set_cons_zero, List.set_cons_succ]
      refine wpAnyH_take (i := 3) (oi := { dst := some 20, op := Op.load 58 (Operand.tmp 4), type := 58, pos := "law.go:63", after := #[], guard := none }) (v := ?_) rfl (by kernel_rfl) (by kernel_rfl) (by kernel_rfl) (fun _ _ _ h => h) (Or.inl ⟨by rfl, ?_⟩) hS ?_
      rotate_left
      · (intro w' hSw; (try dsimp only at hSw); go_simp; try with_reducible rfl)
      try simp only [Act.put, List.setIfInBounds_toArray, List.set_cons_zero, List.set_cons_succ]
      refine wpAnyH_take (i := 4) (oi := { dst := some 21, op := Op.load 58 (Operand.tmp 3), type := 58, pos := "law.go:63", after := #[], guard := none }) (v := ?_) rfl (by kernel_rfl) (by kernel_rfl) (by kernel_rfl) (fun _ _ _ h => h) (Or.inl ⟨by rfl, ?_⟩) hS ?_
      rotate_left
      · (intro w' hSw; (try dsimp only at hSw); go_simp; try with_reducible rfl)
      try simp only [Act.put, List.setIfInBounds_toArray, List.set_cons_zero, List.set_cons_succ]
      refine wpAnyH_ready (rs := [2]) (by kernel_rfl) (by simp) ?_
      refine AllReadyH.cons (o := { dst := some 19, op := Op.call { callee := Callee.value (Operand.func 53), args := #[Operand.tmp 17, Operand.tmp 18], argTypes := #[58, 58] }, type := 58, pos := "law.go:63", after := #[{ on := 0, ground := Ground.data }, { on := 1, ground := Ground.data }], guard := none }) rfl (fun K hK => ?_) AllReadyH.nil
      go_simp
      (go_at_call 53; (with_reducible refine (FAdd_any _ (Hx.below (hS.2.2.2.2.2.2.2.2.2.2.2.2) (Nat.le_refl _)) (Hy.below (hS.2.2.2.2.2.2.2.2.2.2.2.2) (Nat.le_refl _)) zx zy).mono ?_); rintro e wn ⟨rA, rfl, hA, hb1⟩)
      go_wp2_with fail
      refine hK.out _ _ (keepZ12 hS hb1) (fun hS => ?_)
      clear hK K hb1
      try simp only [Act.put, List.setIfInBounds_toArray, List.set_cons_zero, List.set_cons_succ]
      refine wpAnyH_ready (rs := [5]) (by kernel_rfl) (by simp) ?_
      refine AllReadyH.cons (o := { dst := some 22, op := Op.call { callee := Callee.value (Operand.func 53), args := #[Operand.tmp 20, Operand.tmp 21], argTypes := #[58, 58] }, type := 58, pos := "law.go:63", after := #[{ on := 3, ground := Ground.data }, { on := 4, ground := Ground.data }, { on := 2, ground := Ground.chain }], guard := none }) rfl (fun K hK => ?_) AllReadyH.nil
      go_simp
      (go_at_call 53; (with_reducible refine (FAdd_any _ (Hy.below (hS.2.2.2.2.2.2.2.2.2.2.2.2) (Nat.le_refl _)) (Hx.below (hS.2.2.2.2.2.2.2.2.2.2.2.2) (Nat.le_refl _)) zy zx).mono ?_); rintro e wn ⟨rB, rfl, hB, hb1⟩; replace hA := hA.below hb1 (Nat.le_refl _))
      go_wp2_with fail
      refine hK.out _ _ (keepZ12 hS hb1) (fun hS => ?_)
      clear hK K hb1
      try simp only [Act.put, List.setIfInBounds_toArray, List.set_cons_zero, List.set_cons_succ]
      refine wpAnyH_ready (rs := [6]) (by kernel_rfl) (by simp) ?_
      refine AllReadyH.cons (o := { dst := some 23, op := Op.call { callee := Callee.value (Operand.func 40), args := #[Operand.tmp 19, Operand.tmp 22], argTypes := #[58, 58] }, type := 4, pos := "law.go:63", after := #[{ on := 2, ground := Ground.data }, { on := 5, ground := Ground.data }, { on := 5, ground := Ground.chain }], guard := none }) rfl (fun K hK => ?_) AllReadyH.nil
      go_simp
      (go_at_call 40; (with_reducible refine (Same3_true hA hB HE1.out zA).mono ?_); rintro e wn ⟨rfl, hb1⟩)
      go_wp2_with fail
      refine hK.out _ _ (keepZ12 hS hb1) (fun hS => ?_)
      clear hK K hb1
      try simp only [Act.put, List.setIfInBounds_toArray, List.set_cons_zero, List.set_cons_succ]
      refine wpAnyH_take (i := 7) (oi := { dst := some 24, op := Op.unOp UnOp.not 4 (Operand.tmp 23), type := 4, pos := "law.go:63", after := #[{ on := 6, ground := Ground.data }], guard := none }) (v := ?_) rfl (by kernel_rfl) (by kernel_rfl) (by kernel_rfl) (fun _ _ _ h => h) (Or.inl ⟨by rfl, ?_⟩) hS ?_
      rotate_left
      · (intro w' hSw; (try dsimp only at hSw); go_simp; try with_reducible rfl)
      try simp only [Act.put, List.setIfInBounds_toArray, List.set_cons_zero, List.set_cons_succ]
      refine wpAnyH_take (i := 8) (oi := { dst := some 25, op := Op.move (Operand.tmp 24), type := 4, pos := "law.go:63", after := #[{ on := 7, ground := Ground.data }, { on := 6, ground := Ground.chain }], guard := none }) (v := ?_) rfl (by kernel_rfl) (by kernel_rfl) (by kernel_rfl) (fun _ _ _ h => h) (Or.inl ⟨by rfl, ?_⟩) hS ?_
      rotate_left
      · (intro w' hSw; (try dsimp only at hSw); go_simp; try with_reducible rfl)
      try simp only [Act.put, List.setIfInBounds_toArray, List.set_cons_zero, List.set_cons_succ]
      refine wpAnyH_take (i := 9) (oi := { dst := some 26, op := Op.load 58 (Operand.tmp 3), type := 58, pos := "law.go:63", after := #[{ on := 8, ground := Ground.guard }], guard := some (8, false) }) (v := ?_) rfl (by kernel_rfl) (by kernel_rfl) (by kernel_rfl) (fun _ _ _ h => h) (Or.inl ⟨by rfl, ?_⟩) hS ?_
      rotate_left
      · (intro w' hSw; (try dsimp only at hSw); go_simp; try with_reducible rfl)
      try simp only [Act.put, List.setIfInBounds_toArray, List.set_cons_zero, List.set_cons_succ]
      refine wpAnyH_take (i := 10) (oi := { dst := some 27, op := Op.load 58 (Operand.tmp 4), type := 58, pos := "law.go:63", after := #[{ on := 8, ground := Ground.guard }], guard := some (8, false) }) (v := ?_) rfl (by kernel_rfl) (by kernel_rfl) (by kernel_rfl) (fun _ _ _ h => h) (Or.inl ⟨by rfl, ?_⟩) hS ?_
      rotate_left
      · (intro w' hSw; (try dsimp only at hSw); go_simp; try with_reducible rfl)
      try simp only [Act.put, List.setIfInBounds_toArray, List.set_cons_zero, List.set_cons_succ]
      refine wpAnyH_take (i := 12) (oi := { dst := some 29, op := Op.load 58 (Operand.tmp 4), type := 58, pos := "law.go:63", after := #[{ on := 8, ground := Ground.guard }], guard := some (8, false) }) (v := ?_) rfl (by kernel_rfl) (by kernel_rfl) (by kernel_rfl) (fun _ _ _ h => h) (Or.inl ⟨by rfl, ?_⟩) hS ?_
      rotate_left
      · (intro w' hSw; (try dsimp only at hSw); go_simp; try with_reducible rfl)
      try simp only [Act.put, List.setIfInBounds_toArray, List.set_cons_zero, List.set_cons_succ]
      refine wpAnyH_take (i := 13) (oi := { dst := some 30, op := Op.load 58 (Operand.tmp 3), type := 58, pos := "law.go:63", after := #[{ on := 8, ground := Ground.guard }], guard := some (8, false) }) (v := ?_) rfl (by kernel_rfl) (by kernel_rfl) (by kernel_rfl) (fun _ _ _ h => h) (Or.inl ⟨by rfl, ?_⟩) hS ?_
      rotate_left
      · (intro w' hSw; (try dsimp only at hSw); go_simp; try with_reducible rfl)
      try simp only [Act.put, List.setIfInBounds_toArray, List.set_cons_zero, List.set_cons_succ]
      refine wpAnyH_ready (rs := [11]) (by kernel_rfl) (by simp) ?_
      refine AllReadyH.cons (o := { dst := some 28, op := Op.call { callee := Callee.value (Operand.func 47), args := #[Operand.tmp 26, Operand.tmp 27], argTypes := #[58, 58] }, type := 58, pos := "law.go:63", after := #[{ on := 9, ground := Ground.data }, { on := 10, ground := Ground.data }, { on := 8, ground := Ground.chain }, { on := 8, ground := Ground.guard }], guard := some (8, false) }) rfl (fun K hK => ?_) AllReadyH.nil
      go_simp
      (go_at_call 47; (with_reducible refine (FMul_any _ (Hx.below (hS.2.2.2.2.2.2.2.2.2.2.2.2) (Nat.le_refl _)) (Hy.below (hS.2.2.2.2.2.2.2.2.2.2.2.2) (Nat.le_refl _)) zx zy).mono ?_); rintro e wn ⟨rA, rfl, hA, hb1⟩)
      go_wp2_with fail
      refine hK.out _ _ (keepZ12 hS hb1) (fun hS => ?_)
      clear hK K hb1
      try simp only [Act.put, List.setIfInBounds_toArray, List.set_cons_zero, List.set_cons_succ]
      refine wpAnyH_ready (rs := [14]) (by kernel_rfl) (by simp) ?_
      refine AllReadyH.cons (o := { dst := some 31, op := Op.call { callee := Callee.value (Operand.func 47), args := #[Operand.tmp 29, Operand.tmp 30], argTypes := #[58, 58] }, type := 58, pos := "law.go:63", after := #[{ on := 12, ground := Ground.data }, { on := 13, ground := Ground.data }, { on := 11, ground := Ground.chain }, { on := 8, ground := Ground.guard }], guard := some (8, false) }) rfl (fun K hK => ?_) AllReadyH.nil
      go_simp
      (go_at_call 47; (with_reducible refine (FMul_any _ (Hy.below (hS.2.2.2.2.2.2.2.2.2.2.2.2) (Nat.le_refl _)) (Hx.below (hS.2.2.2.2.2.2.2.2.2.2.2.2) (Nat.le_refl _)) zy zx).mono ?_); rintro e wn ⟨rB, rfl, hB, hb1⟩; replace hA := hA.below hb1 (Nat.le_refl _))
      go_wp2_with fail
      refine hK.out _ _ (keepZ12 hS hb1) (fun hS => ?_)
      clear hK K hb1
      try simp only [Act.put, List.setIfInBounds_toArray, List.set_cons_zero, List.set_cons_succ]
      refine wpAnyH_ready (rs := [15]) (by kernel_rfl) (by simp) ?_
      refine AllReadyH.cons (o := { dst := some 32, op := Op.call { callee := Callee.value (Operand.func 40), args := #[Operand.tmp 28, Operand.tmp 31], argTypes := #[58, 58] }, type := 4, pos := "law.go:63", after := #[{ on := 11, ground := Ground.data }, { on := 14, ground := Ground.data }, { on := 14, ground := Ground.chain }, { on := 8, ground := Ground.guard }], guard := some (8, false) }) rfl (fun K hK => ?_) AllReadyH.nil
      go_simp
      (go_at_call 40; (with_reducible refine (Same3_true hA hB HE2.out zM).mono ?_); rintro e wn ⟨rfl, hb1⟩)
      go_wp2_with fail
      refine hK.out _ _ (keepZ12 hS hb1) (fun hS => ?_)
      clear hK K hb1
      try simp only [Act.put, List.setIfInBounds_toArray, List.set_cons_zero, List.set_cons_succ]
      refine wpAnyH_take (i := 16) (oi := { dst := some 33, op := Op.unOp UnOp.not 4 (Operand.tmp 32), type := 4, pos := "law.go:63", after := #[{ on := 15, ground := Ground.data }, { on := 8, ground := Ground.guard }], guard := some (8, false) }) (v := ?_) rfl (by kernel_rfl) (by kernel_rfl) (by kernel_rfl) (fun _ _ _ h => h) (Or.inl ⟨by rfl, ?_⟩) hS ?_
      rotate_left
      · (intro w' hSw; (try dsimp only at hSw); go_simp; try with_reducible rfl)
      try simp only [Act.put, List.setIfInBounds_toArray, List.set_cons_zero, List.set_cons_succ]
      refine wpAnyH_take (i := 17) (oi := { dst := some 34, op := Op.pick (Operand.tmp 25) (Operand.const (Value.bool true)) (Operand.tmp 33), type := 4, pos := "law.go:63", after := #[{ on := 8, ground := Ground.data }, { on := 16, ground := Ground.data }], guard := none }) (v := ?_) rfl (by kernel_rfl) (by kernel_rfl) (by kernel_rfl) (fun _ _ _ h => h) (Or.inl ⟨by rfl, ?_⟩) hS ?_
      rotate_left
      · (intro w' hSw; (try dsimp only at hSw); go_simp; try with_reducible rfl)
      try simp only [Act.put, List.setIfInBounds_toArray, List.set_cons_zero, List.set_cons_succ]
      refine wpAnyH_take (i := 18) (oi := { dst := some 35, op := Op.move (Operand.tmp 34), type := 4, pos := "law.go:63", after := #[{ on := 17, ground := Ground.data }, { on := 15, ground := Ground.chain }], guard := none }) (v := ?_) rfl (by kernel_rfl) (by kernel_rfl) (by kernel_rfl) (fun _ _ _ h => h) (Or.inl ⟨by rfl, ?_⟩) hS ?_
      rotate_left
      · (intro w' hSw; (try dsimp only at hSw); go_simp; try with_reducible rfl)
      try simp only [Act.put, List.setIfInBounds_toArray, List.set_cons_zero, List.set_cons_succ]
      refine wpAnyH_take (i := 19) (oi := { dst := some 36, op := Op.load 58 (Operand.tmp 3), type := 58, pos := "law.go:63", after := #[{ on := 18, ground := Ground.guard }], guard := some (18, false) }) (v := ?_) rfl (by kernel_rfl) (by kernel_rfl) (by kernel_rfl) (fun _ _ _ h => h) (Or.inl ⟨by rfl, ?_⟩) hS ?_
      rotate_left
      · (intro w' hSw; (try dsimp only at hSw); go_simp; try with_reducible rfl)
      try simp only [Act.put, List.setIfInBounds_toArray, List.set_cons_zero, List.set_cons_succ]
      refine wpAnyH_take (i := 20) (oi := { dst := some 37, op := Op.load 58 (Operand.tmp 4), type := 58, pos := "law.go:63", after := #[{ on := 18, ground := Ground.guard }], guard := some (18, false) }) (v := ?_) rfl (by kernel_rfl) (by kernel_rfl) (by kernel_rfl) (fun _ _ _ h => h) (Or.inl ⟨by rfl, ?_⟩) hS ?_
      rotate_left
      · (intro w' hSw; (try dsimp only at hSw); go_simp; try with_reducible rfl)
      try simp only [Act.put, List.setIfInBounds_toArray, List.set_cons_zero, List.set_cons_succ]
      refine wpAnyH_take (i := 21) (oi := { dst := some 38, op := Op.load 58 (Operand.tmp 5), type := 58, pos := "law.go:63", after := #[{ on := 18, ground := Ground.guard }], guard := some (18, false) }) (v := ?_) rfl (by kernel_rfl) (by kernel_rfl) (by kernel_rfl) (fun _ _ _ h => h) (Or.inl ⟨by rfl, ?_⟩) hS ?_
      rotate_left
      · (intro w' hSw; (try dsimp only at hSw); go_simp; try with_reducible rfl)
      try simp only [Act.put, List.setIfInBounds_toArray, List.set_cons_zero, List.set_cons_succ]
      refine wpAnyH_take (i := 24) (oi := { dst := some 41, op := Op.load 58 (Operand.tmp 3), type := 58, pos := "law.go:63", after := #[{ on := 18, ground := Ground.guard }], guard := some (18, false) }) (v := ?_) rfl (by kernel_rfl) (by kernel_rfl) (by kernel_rfl) (fun _ _ _ h => h) (Or.inl ⟨by rfl, ?_⟩) hS ?_
      rotate_left
      · (intro w' hSw; (try dsimp only at hSw); go_simp; try with_reducible rfl)
      try simp only [Act.put, List.setIfInBounds_toArray, List.set_cons_zero, List.set_cons_succ]
      refine wpAnyH_take (i := 25) (oi := { dst := some 42, op := Op.load 58 (Operand.tmp 4), type := 58, pos := "law.go:63", after := #[{ on := 18, ground := Ground.guard }], guard := some (18, false) }) (v := ?_) rfl (by kernel_rfl) (by kernel_rfl) (by kernel_rfl) (fun _ _ _ h => h) (Or.inl ⟨by rfl, ?_⟩) hS ?_
      rotate_left
      · (intro w' hSw; (try dsimp only at hSw); go_simp; try with_reducible rfl)
      try simp only [Act.put, List.setIfInBounds_toArray, List.set_cons_zero, List.set_cons_succ]
      refine wpAnyH_take (i := 27) (oi := { dst := some 44, op := Op.load 58 (Operand.tmp 3), type := 58, pos := "law.go:63", after := #[{ on := 18, ground := Ground.guard }], guard := some (18, false) }) (v := ?_) rfl (by kernel_rfl) (by kernel_rfl) (by kernel_rfl) (fun _ _ _ h => h) (Or.inl ⟨by rfl, ?_⟩) hS ?_
      rotate_left
      · (intro w' hSw; (try dsimp only at hSw); go_simp; try with_reducible rfl)
      try simp only [Act.put, List.setIfInBounds_toArray, List.set_cons_zero, List.set_cons_succ]
      refine wpAnyH_take (i := 28) (oi := { dst := some 45, op := Op.load 58 (Operand.tmp 5), type := 58, pos := "law.go:63", after := #[{ on := 18, ground := Ground.guard }], guard := some (18, false) }) (v := ?_) rfl (by kernel_rfl) (by kernel_rfl) (by kernel_rfl) (fun _ _ _ h => h) (Or.inl ⟨by rfl, ?_⟩) hS ?_
      rotate_left
      · (intro w' hSw; (try dsimp only at hSw); go_simp; try with_reducible rfl)
      try simp only [Act.put, List.setIfInBounds_toArray, List.set_cons_zero, List.set_cons_succ]
      refine wpAnyH_ready (rs := [22]) (by kernel_rfl) (by simp) ?_
      refine AllReadyH.cons (o := { dst := some 39, op := Op.call { callee := Callee.value (Operand.func 53), args := #[Operand.tmp 37, Operand.tmp 38], argTypes := #[58, 58] }, type := 58, pos := "law.go:63", after := #[{ on := 20, ground := Ground.data }, { on := 21, ground := Ground.data }, { on := 18, ground := Ground.chain }, { on := 18, ground := Ground.guard }], guard := some (18, false) }) rfl (fun K hK => ?_) AllReadyH.nil
      go_simp
      (go_at_call 53; (with_reducible refine (FAdd_any _ (Hy.below (hS.2.2.2.2.2.2.2.2.2.2.2.2) (Nat.le_refl _)) (Hz.below (hS.2.2.2.2.2.2.2.2.2.2.2.2) (Nat.le_refl _)) zy zz).mono ?_); rintro e wn ⟨rA, rfl, hA, hb1⟩)
      go_wp2_with fail
      refine hK.out _ _ (keepZ12 hS hb1) (fun hS => ?_)
      clear hK K hb1
      try simp only [Act.put, List.setIfInBounds_toArray, List.set_cons_zero, List.set_cons_succ]
      refine wpAnyH_ready (rs := [23]) (by kernel_rfl) (by simp) ?_
      refine AllReadyH.cons (o := { dst := some 40, op := Op.call { callee := Callee.value (Operand.func 47), args := #[Operand.tmp 36, Operand.tmp 39], argTypes := #[58, 58] }, type := 58, pos := "law.go:63", after := #[{ on := 19, ground := Ground.data }, { on := 22, ground := Ground.data }, { on := 22, ground := Ground.chain }, { on := 18, ground := Ground.guard }], guard := some (18, false) }) rfl (fun K hK => ?_) AllReadyH.nil
      go_simp
      (go_at_call 47; (with_reducible refine (FMul_any _ (Hx.below (hS.2.2.2.2.2.2.2.2.2.2.2.2) (Nat.le_refl _)) hA zx zB).mono ?_); rintro e wn ⟨rB, rfl, hB, hb1⟩)
      go_wp2_with fail
      refine hK.out _ _ (keepZ12 hS hb1) (fun hS => ?_)
      clear hK K hb1
      try simp only [Act.put, List.setIfInBounds_toArray, List.set_cons_zero, List.set_cons_succ]
      refine wpAnyH_ready (rs := [26]) (by kernel_rfl) (by simp) ?_
      refine AllReadyH.cons (o := { dst := some 43, op := Op.call { callee := Callee.value (Operand.func 47), args := #[Operand.tmp 41, Operand.tmp 42], argTypes := #[58, 58] }, type := 58, pos := "law.go:63", after := #[{ on := 24, ground := Ground.data }, { on := 25, ground := Ground.data }, { on := 23, ground := Ground.chain }, { on := 18, ground := Ground.guard }], guard := some (18, false) }) rfl (fun K hK => ?_) AllReadyH.nil
      go_simp
      (go_at_call 47; (with_reducible refine (FMul_any _ (Hx.below (hS.2.2.2.2.2.2.2.2.2.2.2.2) (Nat.le_refl _)) (Hy.below (hS.2.2.2.2.2.2.2.2.2.2.2.2) (Nat.le_refl _)) zx zy).mono ?_); rintro e wn ⟨rC, rfl, hC, hb1⟩; replace hB := hB.below hb1 (Nat.le_refl _))
      go_wp2_with fail
      refine hK.out _ _ (keepZ12 hS hb1) (fun hS => ?_)
      clear hK K hb1
      try simp only [Act.put, List.setIfInBounds_toArray, List.set_cons_zero, List.set_cons_succ]
      refine wpAnyH_ready (rs := [29]) (by kernel_rfl) (by simp) ?_
      refine AllReadyH.cons (o := { dst := some 46, op := Op.call { callee := Callee.value (Operand.func 47), args := #[Operand.tmp 44, Operand.tmp 45], argTypes := #[58, 58] }, type := 58, pos := "law.go:63", after := #[{ on := 27, ground := Ground.data }, { on := 28, ground := Ground.data }, { on := 26, ground := Ground.chain }, { on := 18, ground := Ground.guard }], guard := some (18, false) }) rfl (fun K hK => ?_) AllReadyH.nil
      go_simp
      (go_at_call 47; (with_reducible refine (FMul_any _ (Hx.below (hS.2.2.2.2.2.2.2.2.2.2.2.2) (Nat.le_refl _)) (Hz.below (hS.2.2.2.2.2.2.2.2.2.2.2.2) (Nat.le_refl _)) zx zz).mono ?_); rintro e wn ⟨rD, rfl, hD, hb1⟩; replace hB := hB.below hb1 (Nat.le_refl _); replace hC := hC.below hb1 (Nat.le_refl _))
      go_wp2_with fail
      refine hK.out _ _ (keepZ12 hS hb1) (fun hS => ?_)
      clear hK K hb1
      try simp only [Act.put, List.setIfInBounds_toArray, List.set_cons_zero, List.set_cons_succ]
      refine wpAnyH_ready (rs := [30]) (by kernel_rfl) (by simp) ?_
      refine AllReadyH.cons (o := { dst := some 47, op := Op.call { callee := Callee.value (Operand.func 53), args := #[Operand.tmp 43, Operand.tmp 46], argTypes := #[58, 58] }, type := 58, pos := "law.go:63", after := #[{ on := 26, ground := Ground.data }, { on := 29, ground := Ground.data }, { on := 29, ground := Ground.chain }, { on := 18, ground := Ground.guard }], guard := some (18, false) }) rfl (fun K hK => ?_) AllReadyH.nil
      go_simp
      (go_at_call 53; (with_reducible refine (FAdd_any _ hC hD zM zN).mono ?_); rintro e wn ⟨rE, rfl, hE, hb1⟩; replace hB := hB.below hb1 (Nat.le_refl _))
      go_wp2_with fail
      refine hK.out _ _ (keepZ12 hS hb1) (fun hS => ?_)
      clear hK K hb1
      try simp only [Act.put, List.setIfInBounds_toArray, List.set_cons_zero, List.set_cons_succ]
      refine wpAnyH_ready (rs := [31]) (by kernel_rfl) (by simp) ?_
      refine AllReadyH.cons (o := { dst := some 48, op := Op.call { callee := Callee.value (Operand.func 40), args := #[Operand.tmp 40, Operand.tmp 47], argTypes := #[58, 58] }, type := 4, pos := "law.go:63", after := #[{ on := 23, ground := Ground.data }, { on := 30, ground := Ground.data }, { on := 30, ground := Ground.chain }, { on := 18, ground := Ground.guard }], guard := some (18, false) }) rfl (fun K hK => ?_) AllReadyH.nil
      go_simp
      (go_at_call 40; (with_reducible refine (Same3_true hB hE HE3.out zS).mono ?_); rintro e wn ⟨rfl, hb1⟩)
      go_wp2_with fail
      refine hK.out _ _ (keepZ12 hS hb1) (fun hS => ?_)
      clear hK K hb1
      try simp only [Act.put, List.setIfInBounds_toArray, List.set_cons_zero, List.set_cons_succ]
      refine wpAnyH_take (i := 32) (oi := { dst := some 49, op := Op.unOp UnOp.not 4 (Operand.tmp 48), type := 4, pos := "law.go:63", after := #[{ on := 31, ground := Ground.data }, { on := 18, ground := Ground.guard }], guard := some (18, false) }) (v := ?_) rfl (by kernel_rfl) (by kernel_rfl) (by kernel_rfl) (fun _ _ _ h => h) (Or.inl ⟨by rfl, ?_⟩) hS ?_
      rotate_left
      · (intro w' hSw; (try dsimp only at hSw); go_simp; try with_reducible rfl)
      try simp only [Act.put, List.setIfInBounds_toArray, List.set_cons_zero, List.set_cons_succ]
      refine wpAnyH_take (i := 33) (oi := { dst := some 50, op := Op.pick (Operand.tmp 35) (Operand.const (Value.bool true)) (Operand.tmp 49), type := 4, pos := "law.go:63", after := #[{ on := 18, ground := Ground.data }, { on := 32, ground := Ground.data }], guard := none }) (v := ?_) rfl (by kernel_rfl) (by kernel_rfl) (by kernel_rfl) (fun _ _ _ h => h) (Or.inl ⟨by rfl, ?_⟩) hS ?_
      rotate_left
      · (intro w' hSw; (try dsimp only at hSw); go_simp; try with_reducible rfl)
      try simp only [Act.put, List.setIfInBounds_toArray, List.set_cons_zero, List.set_cons_succ]
      refine wpAnyH_take (i := 34) (oi := { dst := some 51, op := Op.move (Operand.tmp 50), type := 4, pos := "law.go:63", after := #[{ on := 33, ground := Ground.data }, { on := 31, ground := Ground.chain }], guard := none }) (v := ?_) rfl (by kernel_rfl) (by kernel_rfl) (by kernel_rfl) (fun _ _ _ h => h) (Or.inl ⟨by rfl, ?_⟩) hS ?_
      rotate_left
      · (intro w' hSw; (try dsimp only at hSw); go_simp; try with_reducible rfl)
      try simp only [Act.put, List.setIfInBounds_toArray, List.set_cons_zero, List.set_cons_succ]
      refine wpAnyH_take (i := 35) (oi := { dst := some 52, op := Op.load 58 (Operand.tmp 3), type := 58, pos := "law.go:63", after := #[{ on := 34, ground := Ground.guard }], guard := some (34, false) }) (v := ?_) rfl (by kernel_rfl) (by kernel_rfl) (by kernel_rfl) (fun _ _ _ h => h) (Or.inl ⟨by rfl, ?_⟩) hS ?_
      rotate_left
      · (intro w' hSw; (try dsimp only at hSw); go_simp; try with_reducible rfl)
      try simp only [Act.put, List.setIfInBounds_toArray, List.set_cons_zero, List.set_cons_succ]
      refine wpAnyH_take (i := 36) (oi := { dst := some 53, op := Op.load 58 (Operand.tmp 4), type := 58, pos := "law.go:63", after := #[{ on := 34, ground := Ground.guard }], guard := some (34, false) }) (v := ?_) rfl (by kernel_rfl) (by kernel_rfl) (by kernel_rfl) (fun _ _ _ h => h) (Or.inl ⟨by rfl, ?_⟩) hS ?_
      rotate_left
      · (intro w' hSw; (try dsimp only at hSw); go_simp; try with_reducible rfl)
      try simp only [Act.put, List.setIfInBounds_toArray, List.set_cons_zero, List.set_cons_succ]
      refine wpAnyH_take (i := 38) (oi := { dst := some 55, op := Op.load 58 (Operand.tmp 4), type := 58, pos := "law.go:63", after := #[{ on := 34, ground := Ground.guard }], guard := some (34, false) }) (v := ?_) rfl (by kernel_rfl) (by kernel_rfl) (by kernel_rfl) (fun _ _ _ h => h) (Or.inl ⟨by rfl, ?_⟩) hS ?_
      rotate_left
      · (intro w' hSw; (try dsimp only at hSw); go_simp; try with_reducible rfl)
      try simp only [Act.put, List.setIfInBounds_toArray, List.set_cons_zero, List.set_cons_succ]
      refine wpAnyH_take (i := 41) (oi := { dst := some 58, op := Op.load 58 (Operand.tmp 3), type := 58, pos := "law.go:63", after := #[{ on := 34, ground := Ground.guard }], guard := some (34, false) }) (v := ?_) rfl (by kernel_rfl) (by kernel_rfl) (by kernel_rfl) (fun _ _ _ h => h) (Or.inl ⟨by rfl, ?_⟩) hS ?_
      rotate_left
      · (intro w' hSw; (try dsimp only at hSw); go_simp; try with_reducible rfl)
      try simp only [Act.put, List.setIfInBounds_toArray, List.set_cons_zero, List.set_cons_succ]
      refine wpAnyH_ready (rs := [37]) (by kernel_rfl) (by simp) ?_
      refine AllReadyH.cons (o := { dst := some 54, op := Op.call { callee := Callee.value (Operand.func 53), args := #[Operand.tmp 52, Operand.tmp 53], argTypes := #[58, 58] }, type := 58, pos := "law.go:63", after := #[{ on := 35, ground := Ground.data }, { on := 36, ground := Ground.data }, { on := 34, ground := Ground.chain }, { on := 34, ground := Ground.guard }], guard := some (34, false) }) rfl (fun K hK => ?_) AllReadyH.nil
      go_simp
      (go_at_call 53; (with_reducible refine (FAdd_any _ (Hx.below (hS.2.2.2.2.2.2.2.2.2.2.2.2) (Nat.le_refl _)) (Hy.below (hS.2.2.2.2.2.2.2.2.2.2.2.2) (Nat.le_refl _)) zx zy).mono ?_); rintro e wn ⟨rA, rfl, hA, hb1⟩)
      go_wp2_with fail
      refine hK.out _ _ (keepZ12 hS hb1) (fun hS => ?_)
      clear hK K hb1
      try simp only [Act.put, List.setIfInBounds_toArray, List.set_cons_zero, List.set_cons_succ]
      refine wpAnyH_ready (rs := [39]) (by kernel_rfl) (by simp) ?_
      refine AllReadyH.cons (o := { dst := some 56, op := Op.call { callee := Callee.value (Operand.func 48), args := #[Operand.tmp 55], argTypes := #[58] }, type := 58, pos := "law.go:63", after := #[{ on := 38, ground := Ground.data }, { on := 37, ground := Ground.chain }, { on := 34, ground := Ground.guard }], guard := some (34, false) }) rfl (fun K hK => ?_) AllReadyH.nil
      go_simp
      (go_at_call 48; (with_reducible refine (FNeg_any _ (Hy.below (hS.2.2.2.2.2.2.2.2.2.2.2.2) (Nat.le_refl _)) zy).mono ?_); rintro e wn ⟨rB, rfl, hB, hb1⟩; replace hA := hA.below hb1 (Nat.le_refl _))
      go_wp2_with fail
      refine hK.out _ _ (keepZ12 hS hb1) (fun hS => ?_)
      clear hK K hb1
      try simp only [Act.put, List.setIfInBounds_toArray, List.set_cons_zero, List.set_cons_succ]
      refine wpAnyH_ready (rs := [40]) (by kernel_rfl) (by simp) ?_
      refine AllReadyH.cons (o := { dst := some 57, op := Op.call { callee := Callee.value (Operand.func 53), args := #[Operand.tmp 54, Operand.tmp 56], argTypes := #[58, 58] }, type := 58, pos := "law.go:63", after := #[{ on := 37, ground := Ground.data }, { on := 39, ground := Ground.data }, { on := 39, ground := Ground.chain }, { on := 34, ground := Ground.guard }], guard := some (34, false) }) rfl (fun K hK => ?_) AllReadyH.nil
      go_simp
      (go_at_call 53; (with_reducible refine (FAdd_any _ hA hB zA zG).mono ?_); rintro e wn ⟨rC, rfl, hC, hb1⟩)
      go_wp2_with fail
      refine hK.out _ _ (keepZ12 hS hb1) (fun hS => ?_)
      clear hK K hb1
      try simp only [Act.put, List.setIfInBounds_toArray, List.set_cons_zero, List.set_cons_succ]
      refine wpAnyH_ready (rs := [42]) (by kernel_rfl) (by simp) ?_
      refine AllReadyH.cons (o := { dst := some 59, op := Op.call { callee := Callee.value (Operand.func 40), args := #[Operand.tmp 57, Operand.tmp 58], argTypes := #[58, 58] }, type := 4, pos := "law.go:63", after := #[{ on := 40, ground := Ground.data }, { on := 41, ground := Ground.data }, { on := 40, ground := Ground.chain }, { on := 34, ground := Ground.guard }], guard := some (34, false) }) rfl (fun K hK => ?_) AllReadyH.nil
      go_simp
      (go_at_call 40; (with_reducible refine (Same3_true hC (Hx.below (hS.2.2.2.2.2.2.2.2.2.2.2.2) (Nat.le_refl _)) HE4.out zL).mono ?_); rintro e wn ⟨rfl, hb1⟩)
      go_wp2_with fail
      refine hK.out _ _ (keepZ12 hS hb1) (fun hS => ?_)
      clear hK K hb1
      try simp only [Act.put, List.setIfInBounds_toArray, List.set_cons_zero, List.set_cons_succ]
      refine wpAnyH_take (i := 43) (oi := { dst := some 60, op := Op.unOp UnOp.not 4 (Operand.tmp 59), type := 4, pos := "law.go:63", after := #[{ on := 42, ground := Ground.data }, { on := 34, ground := Ground.guard }], guard := some (34, false) }) (v := ?_) rfl (by kernel_rfl) (by kernel_rfl) (by kernel_rfl) (fun _ _ _ h => h) (Or.inl ⟨by rfl, ?_⟩) hS ?_
      rotate_left
      · (intro w' hSw; (try dsimp only at hSw); go_simp; try with_reducible rfl)
      try simp only [Act.put, List.setIfInBounds_toArray, List.set_cons_zero, List.set_cons_succ]
      refine wpAnyH_take (i := 44) (oi := { dst := some 61, op := Op.pick (Operand.tmp 51) (Operand.const (Value.bool true)) (Operand.tmp 60), type := 4, pos := "law.go:63", after := #[{ on := 34, ground := Ground.data }, { on := 43, ground := Ground.data }], guard := none }) (v := ?_) rfl (by kernel_rfl) (by kernel_rfl) (by kernel_rfl) (fun _ _ _ h => h) (Or.inl ⟨by rfl, ?_⟩) hS ?_
      rotate_left
      · (intro w' hSw; (try dsimp only at hSw); go_simp; try with_reducible rfl)
      try simp only [Act.put, List.setIfInBounds_toArray, List.set_cons_zero, List.set_cons_succ]
      refine wpAnyH_done (by kernel_rfl) ?_ _
      go_wp2_with fail
      go_meet
      exact ⟨rfl, hS⟩
    case rest =>
      clear cx0 cx1 cx2 cx3 cy0 cy1 cy2 cy3 cz0 cz1 cz2 cz3 sb sb1 HE1 HE2 HE3 HE4
      obtain ⟨rfl, cx0, cx1, cx2, cx3, cy0, cy1, cy2, cy3, cz0, cz1, cz2, cz3, sb⟩ := hcut
      have sb1 := sb.drew
      go_upto_region 7 with (fail)
      go_cut [76] from 62 to 75 (fun v76 wc => v76 = .bool false ∧ (wc.cell? ⟨w.heap.size, 0, none⟩ = some (.bool xn) ∧ wc.cell? ⟨w.heap.size, 1, none⟩ = some (.slice xa xl xk) ∧ wc.cell? ⟨w.heap.size, 2, none⟩ = some (.bool xm) ∧ wc.cell? ⟨w.heap.size, 3, none⟩ = some (.slice xb xi xj) ∧ wc.cell? ⟨w.heap.size + 1, 0, none⟩ = some (.bool yn) ∧ wc.cell? ⟨w.heap.size + 1, 1, none⟩ = some (.slice ya yl yk) ∧ wc.cell? ⟨w.heap.size + 1, 2, none⟩ = some (.bool ym) ∧ wc.cell? ⟨w.heap.size + 1, 3, none⟩ = some (.slice yb yi yj) ∧ wc.cell? ⟨w.heap.size + 1 + 1, 0, none⟩ = some (.bool zn) ∧ wc.cell? ⟨w.heap.size + 1 + 1, 1, none⟩ = some (.slice za zl zk) ∧ wc.cell? ⟨w.heap.size + 1 + 1, 2, none⟩ = some (.bool zm) ∧ wc.cell? ⟨w.heap.size + 1 + 1, 3, none⟩ = some (.slice zb zi zj) ∧ Below w.heap.size w wc))
      case first =>
        by_cases h0 : q = 0
        · have hl0 : yl = 0 := by rw [HYL.out, h0]; rfl
          clear h0 HYL
          subst hl0
          refine wp_region_held_drew (S := fun w' => w'.cell? ⟨w.heap.size, 0, none⟩ = some (.bool xn) ∧ w'.cell? ⟨w.heap.size, 1, none⟩ = some (.slice xa xl xk) ∧ w'.cell? ⟨w.heap.size, 2, none⟩ = some (.bool xm) ∧ w'.cell? ⟨w.heap.size, 3, none⟩ = some (.slice xb xi xj) ∧ w'.cell? ⟨w.heap.size + 1, 0, none⟩ = some (.bool yn) ∧ w'.cell? ⟨w.heap.size + 1, 1, none⟩ = some (.slice ya 0 yk) ∧ w'.cell? ⟨w.heap.size + 1, 2, none⟩ = some (.bool ym) ∧ w'.cell? ⟨w.heap.size + 1, 3, none⟩ = some (.slice yb yi yj) ∧ w'.cell? ⟨w.heap.size + 1 + 1, 0, none⟩ = some (.bool zn) ∧ w'.cell? ⟨w.heap.size + 1 + 1, 1, none⟩ = some (.slice za zl zk) ∧ w'.cell? ⟨w.heap.size + 1 + 1, 2, none⟩ = some (.bool zm) ∧ w'.cell? ⟨w.heap.size + 1 + 1, 3, none⟩ = some (.slice zb zi zj) ∧ Below w.heap.size w w') (by kernel_rfl) (⟨cx0, cx1, cx2, cx3, cy0, cy1, cy2, cy3, cz0, cz1, cz2, cz3, sb1⟩) (fun hS => ?_)
          refine wpAnyH_take (i := 0) (oi := { dst := some 62, op := Op.fieldAddr 58 (Operand.tmp 4) 0, type := 0, pos := "law.go:66", after := #[], guard := none }) (v := ?_) rfl (by kernel_rfl) (by kernel_rfl) (by kernel_rfl) (fun _ _ _ h => h) (Or.inl ⟨by rfl, ?_⟩) hS ?_
          rotate_left
          · (intro w' hSw; (try dsimp only at hSw); go_simp; try with_reducible rfl)
          try simp only [Act.put, List.setIfInBounds_toArray, List.set_cons_zero, List.set_cons_succ]
          refine wpAnyH_take (i := 1) (oi := { dst := some 63, op := Op.fieldAddr 24 (Operand.tmp 62) 1, type := 0, pos := "law.go:66", after := #[{ on := 0, ground := Ground.data }], guard := none }) (v := ?_) rfl (by kernel_rfl) (by kernel_rfl) (by kernel_rfl) (fun _ _ _ h => h) (Or.inl ⟨by rfl, ?_⟩) hS ?_
          rotate_left
          · (intro w' hSw; (try dsimp only at hSw); go_simp; try with_reducible rfl)
          try simp only [Act.put, List.setIfInBounds_toArray, List.set_cons_zero, List.set_cons_succ]
          refine wpAnyH_take (i := 2) (oi := { dst := some 64, op := Op.load 22 (Operand.tmp 63), type := 22, pos := "law.go:66", after := #[{ on := 1, ground := Ground.data }], guard := none }) (v := ?_) rfl (by kernel_rfl) (by kernel_rfl) (by kernel_rfl) (fun _ _ _ h => h) (Or.inl ⟨by rfl, ?_⟩) hS ?_
          rotate_left
          · (intro w' hSw; (try dsimp only at hSw); go_simp; try with_reducible rfl)
          try simp only [Act.put, List.setIfInBounds_toArray, List.set_cons_zero, List.set_cons_succ]
          refine wpAnyH_take (i := 3) (oi := { dst := some 65, op := Op.call { callee := Callee.builtin Builtin.len, args := #[Operand.tmp 64], argTypes := #[22] }, type := 3, pos := "law.go:66", after := #[{ on := 2, ground := Ground.data }], guard := none }) (v := ?_) rfl (by kernel_rfl) (by kernel_rfl) (by kernel_rfl) (fun _ _ _ h => h) (Or.inl ⟨by rfl, ?_⟩) hS ?_
          rotate_left
          · (intro w' hSw; (try dsimp only at hSw); go_simp; try with_reducible rfl)
          try simp only [Act.put, List.setIfInBounds_toArray, List.set_cons_zero, List.set_cons_succ]
          refine wpAnyH_take (i := 4) (oi := { dst := some 66, op := Op.binOp BinOp.gtr 3 (Operand.tmp 65) (Operand.const (Value.int IntKind.i64 0)) 3, type := 4, pos := "law.go:66", after := #[{ on := 3, ground := Ground.data }], guard := none }) (v := ?_) rfl (by kernel_rfl) (by kernel_rfl) (by kernel_rfl) (fun _ _ _ h => h) (Or.inl ⟨by rfl, ?_⟩) hS ?_
          rotate_left
          · (intro w' hSw; (try dsimp only at hSw); go_simp; try with_reducible rfl)
          try simp only [Act.put, List.setIfInBounds_toArray, List.set_cons_zero, List.set_cons_succ]
          refine wpAnyH_take (i := 5) (oi := { dst := some 67, op := Op.move (Operand.tmp 66), type := 4, pos := "law.go:66", after := #[{ on := 4, ground := Ground.data }], guard := none }) (v := ?_) rfl (by kernel_rfl) (by kernel_rfl) (by kernel_rfl) (fun _ _ _ h => h) (Or.inl ⟨by rfl, ?_⟩) hS ?_
          rotate_left
          · (intro w' hSw; (try dsimp only at hSw); go_simp; try with_reducible rfl)
          try simp only [Act.put, List.setIfInBounds_toArray, List.set_cons_zero, List.set_cons_succ]
          refine wpAnyH_take (i := 6) (oi := { dst := some 68, op := Op.load 58 (Operand.tmp 3), type := 58, pos := "law.go:66", after := #[{ on := 5, ground := Ground.guard }], guard := some (5, true) }) (v := undef) rfl (by kernel_rfl) (by kernel_rfl) (by kernel_rfl) (fun _ _ _ h => h) (Or.inr ⟨by rfl, rfl⟩) hS ?_
          try simp only [Act.put, List.setIfInBounds_toArray, List.set_cons_zero, List.set_cons_succ]
          refine wpAnyH_take (i := 7) (oi := { dst := some 69, op := Op.load 58 (Operand.tmp 4), type := 58, pos := "law.go:66", after := #[{ on := 5, ground := Ground.guard }], guard := some (5, true) }) (v := undef) rfl (by kernel_rfl) (by kernel_rfl) (by kernel_rfl) (fun _ _ _ h => h) (Or.inr ⟨by rfl, rfl⟩) hS ?_
          try simp only [Act.put, List.setIfInBounds_toArray, List.set_cons_zero, List.set_cons_succ]
          refine wpAnyH_take (i := 8) (oi := { dst := some 70, op := Op.call { callee := Callee.value (Operand.func 47), args := #[Operand.tmp 68, Operand.tmp 69], argTypes := #[58, 58] }, type := 58, pos := "law.go:66", after := #[{ on := 6, ground := Ground.data }, { on := 7, ground := Ground.data }, { on := 5, ground := Ground.chain }, { on := 5, ground := Ground.guard }], guard := some (5, true) }) (v := undef) rfl (by kernel_rfl) (by kernel_rfl) (by kernel_rfl) (fun _ _ _ h => h) (Or.inr ⟨by rfl, rfl⟩) hS ?_
          try simp only [Act.put, List.setIfInBounds_toArray, List.set_cons_zero, List.set_cons_succ]
          refine wpAnyH_take (i := 9) (oi := { dst := some 71, op := Op.load 58 (Operand.tmp 4), type := 58, pos := "law.go:66", after := #[{ on := 5, ground := Ground.guard }], guard := some (5, true) }) (v := undef) rfl (by kernel_rfl) (by kernel_rfl) (by kernel_rfl) (fun _ _ _ h => h) (Or.inr ⟨by rfl, rfl⟩) hS ?_
          try simp only [Act.put, List.setIfInBounds_toArray, List.set_cons_zero, List.set_cons_succ]
          refine wpAnyH_take (i := 10) (oi := { dst := some 72, op := Op.call { callee := Callee.value (Operand.func 49), args := #[Operand.tmp 70, Operand.tmp 71], argTypes := #[58, 58] }, type := 58, pos := "law.go:66", after := #[{ on := 8, ground := Ground.data }, { on := 9, ground := Ground.data }, { on := 8, ground := Ground.chain }, { on := 5, ground := Ground.guard }], guard := some (5, true) }) (v := undef) rfl (by kernel_rfl) (by kernel_rfl) (by kernel_rfl) (fun _ _ _ h => h) (Or.inr ⟨by rfl, rfl⟩) hS ?_
          try simp only [Act.put, List.setIfInBounds_toArray, List.set_cons_zero, List.set_cons_succ]
          refine wpAnyH_take (i := 11) (oi := { dst := some 73, op := Op.load 58 (Operand.tmp 3), type := 58, pos := "law.go:66", after := #[{ on := 5, ground := Ground.guard }], guard := some (5, true) }) (v := undef) rfl (by kernel_rfl) (by kernel_rfl) (by kernel_rfl) (fun _ _ _ h => h) (Or.inr ⟨by rfl, rfl⟩) hS ?_
          try simp only [Act.put, List.setIfInBounds_toArray, List.set_cons_zero, List.set_cons_succ]
          refine wpAnyH_take (i := 12) (oi := { dst := some 74, op := Op.call { callee := Callee.value (Operand.func 40), args := #[Operand.tmp 72, Operand.tmp 73], argTypes := #[58, 58] }, type := 4, pos := "law.go:66", after := #[{ on := 10, ground := Ground.data }, { on := 11, ground := Ground.data }, { on := 10, ground := Ground.chain }, { on := 5, ground := Ground.guard }], guard := some (5, true) }) (v := undef) rfl (by kernel_rfl) (by kernel_rfl) (by kernel_rfl) (fun _ _ _ h => h) (Or.inr ⟨by rfl, rfl⟩) hS ?_
          try simp only [Act.put, List.setIfInBounds_toArray, List.set_cons_zero, List.set_cons_succ]
          refine wpAnyH_take (i := 13) (oi := { dst := some 75, op := Op.unOp UnOp.not 4 (Operand.tmp 74), type := 4, pos := "law.go:66", after := #[{ on := 12, ground := Ground.data }, { on := 5, ground := Ground.guard }], guard := some (5, true) }) (v := undef) rfl (by kernel_rfl) (by kernel_rfl) (by kernel_rfl) (fun _ _ _ h => h) (Or.inr ⟨by rfl, rfl⟩) hS ?_
          try simp only [Act.put, List.setIfInBounds_toArray, List.set_cons_zero, List.set_cons_succ]
          refine wpAnyH_take (i := 14) (oi := { dst := some 76, op := Op.pick (Operand.tmp 67) (Operand.tmp 75) (Operand.const (Value.bool false)), type := 4, pos := "law.go:66", after := #[{ on := 5, ground := Ground.data }, { on := 13, ground := Ground.data }], guard := none }) (v := ?_) rfl (by kernel_rfl) (by kernel_rfl) (by kernel_rfl) (fun _ _ _ h => h) (Or.inl ⟨by rfl, ?_⟩) hS ?_
          rotate_left
          · (intro w' hSw; (try dsimp only at hSw); go_simp; try with_reducible rfl)
          try simp only [Act.put, List.setIfInBounds_toArray, List.set_cons_zero, List.set_cons_succ]
          refine wpAnyH_done (by kernel_rfl) ?_ _
          go_wp2_with fail
          go_meet
          exact ⟨rfl, hS⟩
        · have hl0 : yl ≠ 0 := by rw [HYL.out]; intro e; exact h0 (Rat.num_eq_zero.1 (len_eq_zero.1 e))
          have hl1 : 0 < yl := by omega
          have e0 : decide (0 < yl) = true := decide_eq_true hl1
          have e1 : decide ((0 : Int) < (yl : Int)) = true := decide_eq_true (by omega)
          have HEQ : Hid (p * q / q = p) := hide (by rw [Rat.div_def, Rat.mul_assoc, Rat.mul_inv_cancel q h0, Rat.mul_one])
          have zQ : Qz (p * q / q) := by rw [HEQ.out]; exact zx
          clear h0 HYL hl0
          refine wp_region_held_drew (S := fun w' => w'.cell? ⟨w.heap.size, 0, none⟩ = some (.bool xn) ∧ w'.cell? ⟨w.heap.size, 1, none⟩ = some (.slice xa xl xk) ∧ w'.cell? ⟨w.heap.size, 2, none⟩ = some (.bool xm) ∧ w'.cell? ⟨w.heap.size, 3, none⟩ = some (.slice xb xi xj) ∧ w'.cell? ⟨w.heap.size + 1, 0, none⟩ = some (.bool yn) ∧ w'.cell? ⟨w.heap.size + 1, 1, none⟩ = some (.slice ya yl yk) ∧ w'.cell? ⟨w.heap.size + 1, 2, none⟩ = some (.bool ym) ∧ w'.cell? ⟨w.heap.size + 1, 3, none⟩ = some (.slice yb yi yj) ∧ w'.cell? ⟨w.heap.size + 1 + 1, 0, none⟩ = some (.bool zn) ∧ w'.cell? ⟨w.heap.size + 1 + 1, 1, none⟩ = some (.slice za zl zk) ∧ w'.cell? ⟨w.heap.size + 1 + 1, 2, none⟩ = some (.bool zm) ∧ w'.cell? ⟨w.heap.size + 1 + 1, 3, none⟩ = some (.slice zb zi zj) ∧ Below w.heap.size w w') (by kernel_rfl) (⟨cx0, cx1, cx2, cx3, cy0, cy1, cy2, cy3, cz0, cz1, cz2, cz3, sb1⟩) (fun hS => ?_)
          refine wpAnyH_take (i := 0) (oi := { dst := some 62, op := Op.fieldAddr 58 (Operand.tmp 4) 0, type := 0, pos := "law.go:66", after := #[], guard := none }) (v := ?_) rfl (by kernel_rfl) (by kernel_rfl) (by kernel_rfl) (fun _ _ _ h => h) (Or.inl ⟨by rfl, ?_⟩) hS ?_
          rotate_left
          · (intro w' hSw; (try dsimp only at hSw); go_simp; try with_reducible rfl)
          try simp only [Act.put, List.setIfInBounds_toArray, List.set_cons_zero, List.set_cons_succ]
          refine wpAnyH_take (i := 1) (oi := { dst := some 63, op := Op.fieldAddr 24 (Operand.tmp 62) 1, type := 0, pos := "law.go:66", after := #[{ on := 0, ground := Ground.data }], guard := none }) (v := ?_) rfl (by kernel_rfl) (by kernel_rfl) (by kernel_rfl) (fun _ _ _ h => h) (Or.inl ⟨by rfl, ?_⟩) hS ?_
          rotate_left
          · (intro w' hSw; (try dsimp only at hSw); go_simp; try with_reducible rfl)
          try simp only [Act.put, List.setIfInBounds_toArray, List.set_cons_zero, List.set_cons_succ]
          refine wpAnyH_take (i := 2) (oi := { dst := some 64, op := Op.load 22 (Operand.tmp 63), type := 22, pos := "law.go:66", after := #[{ on := 1, ground := Ground.data }], guard := none }) (v := ?_) rfl (by kernel_rfl) (by kernel_rfl) (by kernel_rfl) (fun _ _ _ h => h) (Or.inl ⟨by rfl, ?_⟩) hS ?_
          rotate_left
          · (intro w' hSw; (try dsimp only at hSw); go_simp; try with_reducible rfl)
          try simp only [Act.put, List.setIfInBounds_toArray, List.set_cons_zero, List.set_cons_succ]
          refine wpAnyH_take (i := 3) (oi := { dst := some 65, op := Op.call { callee := Callee.builtin Builtin.len, args := #[Operand.tmp 64], argTypes := #[22] }, type := 3, pos := "law.go:66", after := #[{ on := 2, ground := Ground.data }], guard := none }) (v := ?_) rfl (by kernel_rfl) (by kernel_rfl) (by kernel_rfl) (fun _ _ _ h => h) (Or.inl ⟨by rfl, ?_⟩) hS ?_
          rotate_left
          · (intro w' hSw; (try dsimp only at hSw); go_simp; try with_reducible rfl)
          try simp only [Act.put, List.setIfInBounds_toArray, List.set_cons_zero, List.set_cons_succ]
          refine wpAnyH_take (i := 4) (oi := { dst := some 66, op := Op.binOp BinOp.gtr 3 (Operand.tmp 65) (Operand.const (Value.int IntKind.i64 0)) 3, type := 4, pos := "law.go:66", after := #[{ on := 3, ground := Ground.data }], guard := none }) (v := ?_) rfl (by kernel_rfl) (by kernel_rfl) (by kernel_rfl) (fun _ _ _ h => h) (Or.inl ⟨by rfl, ?_⟩) hS ?_
          rotate_left
          · (intro w' hSw; (try dsimp only at hSw); go_simp; try with_reducible rfl)
          try simp only [Act.put, List.setIfInBounds_toArray, List.set_cons_zero, List.set_cons_succ]
          refine wpAnyH_take (i := 5) (oi := { dst := some 67, op := Op.move (Operand.tmp 66), type := 4, pos := "law.go:66", after := #[{ on := 4, ground := Ground.data }], guard := none }) (v := ?_) rfl (by kernel_rfl) (by kernel_rfl) (by kernel_rfl) (fun _ _ _ h => h) (Or.inl ⟨by rfl, ?_⟩) hS ?_
          rotate_left
          · (intro w' hSw; (try dsimp only at hSw); go_simp; try with_reducible rfl)
          try simp only [Act.put, List.setIfInBounds_toArray, List.set_cons_zero, List.set_cons_succ]
          refine wpAnyH_take (i := 6) (oi := { dst := some 68, op := Op.load 58 (Operand.tmp 3), type := 58, pos := "law.go:66", after := #[{ on := 5, ground := Ground.guard }], guard := some (5, true) }) (v := ?_) rfl (by kernel_rfl) (by kernel_rfl) (by kernel_rfl) (fun _ _ _ h => h) (Or.inl ⟨by rfl, ?_⟩) hS ?_
          rotate_left
          · (intro w' hSw; (try dsimp only at hSw); go_simp; try with_reducible rfl)
          try simp only [Act.put, List.setIfInBounds_toArray, List.set_cons_zero, List.set_cons_succ]
          refine wpAnyH_take (i := 7) (oi := { dst := some 69, op := Op.load 58 (Operand.tmp 4), type := 58, pos := "law.go:66", after := #[{ on := 5, ground := Ground.guard }], guard := some (5, true) }) (v := ?_) rfl (by kernel_rfl) (by kernel_rfl) (by kernel_rfl) (fun _ _ _ h => h) (Or.inl ⟨by rfl, ?_⟩) hS ?_
          rotate_left
          · (intro w' hSw; (try dsimp only at hSw); go_simp; try with_reducible rfl)
          try simp only [Act.put, List.setIfInBounds_toArray, List.set_cons_zero, List.set_cons_succ]
          refine wpAnyH_take (i := 9) (oi := { dst := some 71, op := Op.load 58 (Operand.tmp 4), type := 58, pos := "law.go:66", after := #[{ on := 5, ground := Ground.guard }], guard := some (5, true) }) (v := ?_) rfl (by kernel_rfl) (by kernel_rfl) (by kernel_rfl) (fun _ _ _ h => h) (Or.inl ⟨by rfl, ?_⟩) hS ?_
          rotate_left
          · (intro w' hSw; (try dsimp only at hSw); go_simp; try with_reducible rfl)
          try simp only [Act.put, List.setIfInBounds_toArray, List.set_cons_zero, List.set_cons_succ]
          refine wpAnyH_take (i := 11) (oi := { dst := some 73, op := Op.load 58 (Operand.tmp 3), type := 58, pos := "law.go:66", after := #[{ on := 5, ground := Ground.guard }], guard := some (5, true) }) (v := ?_) rfl (by kernel_rfl) (by kernel_rfl) (by kernel_rfl) (fun _ _ _ h => h) (Or.inl ⟨by rfl, ?_⟩) hS ?_
          rotate_left
          · (intro w' hSw; (try dsimp only at hSw); go_simp; try with_reducible rfl)
          try simp only [Act.put, List.setIfInBounds_toArray, List.set_cons_zero, List.set_cons_succ]
          refine wpAnyH_ready (rs := [8]) (by kernel_rfl) (by simp) ?_
          refine AllReadyH.cons (o := { dst := some 70, op := Op.call { callee := Callee.value (Operand.func 47), args := #[Operand.tmp 68, Operand.tmp 69], argTypes := #[58, 58] }, type := 58, pos := "law.go:66", after := #[{ on := 6, ground := Ground.data }, { on := 7, ground := Ground.data }, { on := 5, ground := Ground.chain }, { on := 5, ground := Ground.guard }], guard := some (5, true) }) rfl (fun K hK => ?_) AllReadyH.nil
          go_simp
          (go_at_call 47; (with_reducible refine (FMul_any _ (Hx.below (hS.2.2.2.2.2.2.2.2.2.2.2.2) (Nat.le_refl _)) (Hy.below (hS.2.2.2.2.2.2.2.2.2.2.2.2) (Nat.le_refl _)) zx zy).mono ?_); rintro e wn ⟨rA, rfl, hA, hb1⟩)
          go_wp2_with fail
          refine hK.out _ _ (keepZ12 hS hb1) (fun hS => ?_)
          clear hK K hb1
          try simp only [Act.put, List.setIfInBounds_toArray, List.set_cons_zero, List.set_cons_succ]
          refine wpAnyH_ready (rs := [10]) (by kernel_rfl) (by simp) ?_
          refine AllReadyH.cons (o := { dst := some 72, op := Op.call { callee := Callee.value (Operand.func 49), args := #[Operand.tmp 70, Operand.tmp 71], argTypes := #[58, 58] }, type := 58, pos := "law.go:66", after := #[{ on := 8, ground := Ground.data }, { on := 9, ground := Ground.data }, { on := 8, ground := Ground.chain }, { on := 5, ground := Ground.guard }], guard := some (5, true) }) rfl (fun K hK => ?_) AllReadyH.nil
          go_simp
          (go_at_call 49; (with_reducible refine (FDiv_any _ hA (Hy.below (hS.2.2.2.2.2.2.2.2.2.2.2.2) (Nat.le_refl _)) zM zy).mono ?_); rintro e wn ⟨rB, rfl, hB, hb1⟩)
          go_wp2_with fail
          refine hK.out _ _ (keepZ12 hS hb1) (fun hS => ?_)
          clear hK K hb1
          try simp only [Act.put, List.setIfInBounds_toArray, List.set_cons_zero, List.set_cons_succ]
          refine wpAnyH_ready (rs := [12]) (by kernel_rfl) (by simp) ?_
          refine AllReadyH.cons (o := { dst := some 74, op := Op.call { callee := Callee.value (Operand.func 40), args := #[Operand.tmp 72, Operand.tmp 73], argTypes := #[58, 58] }, type := 4, pos := "law.go:66", after := #[{ on := 10, ground := Ground.data }, { on := 11, ground := Ground.data }, { on := 10, ground := Ground.chain }, { on := 5, ground := Ground.guard }], guard := some (5, true) }) rfl (fun K hK => ?_) AllReadyH.nil
          go_simp
          (go_at_call 40; (with_reducible refine (Same3_true hB (Hx.below (hS.2.2.2.2.2.2.2.2.2.2.2.2) (Nat.le_refl _)) HEQ.out zQ).mono ?_); rintro e wn ⟨rfl, hb1⟩)
          go_wp2_with fail
          refine hK.out _ _ (keepZ12 hS hb1) (fun hS => ?_)
          clear hK K hb1
          try simp only [Act.put, List.setIfInBounds_toArray, List.set_cons_zero, List.set_cons_succ]
          refine wpAnyH_take (i := 13) (oi := { dst := some 75, op := Op.unOp UnOp.not 4 (Operand.tmp 74), type := 4, pos := "law.go:66", after := #[{ on := 12, ground := Ground.data }, { on := 5, ground := Ground.guard }], guard := some (5, true) }) (v := ?_) rfl (by kernel_rfl) (by kernel_rfl) (by kernel_rfl) (fun _ _ _ h => h) (Or.inl ⟨by rfl, ?_⟩) hS ?_
          rotate_left
          · (intro w' hSw; (try dsimp only at hSw); go_simp; try with_reducible rfl)
          try simp only [Act.put, List.setIfInBounds_toArray, List.set_cons_zero, List.set_cons_succ]
          refine wpAnyH_take (i := 14) (oi := { dst := some 76, op := Op.pick (Operand.tmp 67) (Operand.tmp 75) (Operand.const (Value.bool false)), type := 4, pos := "law.go:66", after := #[{ on := 5, ground := Ground.data }, { on := 13, ground := Ground.data }], guard := none }) (v := ?_) rfl (by kernel_rfl) (by kernel_rfl) (by kernel_rfl) (fun _ _ _ h => h) (Or.inl ⟨by rfl, ?_⟩) hS ?_
          rotate_left
          · (intro w' hSw; (try dsimp only at hSw); go_simp; try with_reducible rfl)
          try simp only [Act.put, List.setIfInBounds_toArray, List.set_cons_zero, List.set_cons_succ]
          refine wpAnyH_done (by kernel_rfl) ?_ _
          go_wp2_with fail
          go_meet
          exact ⟨rfl, hS⟩
      case rest =>
        clear cx0 cx1 cx2 cx3 cy0 cy1 cy2 cy3 cz0 cz1 cz2 cz3 sb sb1
        obtain ⟨rfl, cx0, cx1, cx2, cx3, cy0, cy1, cy2, cy3, cz0, cz1, cz2, cz3, sb⟩ := hcut
        rename_i wc
        go_upto_region 9 with (fail)
        go_wp2_with fail
        refine (FFloor_any _ (Hx.below sb (Nat.le_refl _)) zx).mono ?_
        rintro e w8 ⟨u, rfl, hu, hb8⟩
        obtain ⟨un, ua, ul, uk, rfl⟩ := hu.parts
        obtain ⟨cx0, cx1, cx2, cx3, cy0, cy1, cy2, cy3, cz0, cz1, cz2, cz3, sb⟩ := keepZ12 ⟨cx0, cx1, cx2, cx3, cy0, cy1, cy2, cy3, cz0, cz1, cz2, cz3, sb⟩ hb8
        clear hb8
        obtain ⟨w9, hw9⟩ : ∃ w9, w8.alloc (.cells #[.bool un, .slice ua ul uk] 24) = w9 := ⟨_, rfl⟩
        have hBu : Blk w9 w8.heap.size 24 #[.bool un, .slice ua ul uk] := by rw [← hw9]; exact Blk.new _ _ _
        have hbw9 : Below w8.heap.size w8 w9 := by rw [← hw9]; exact (Below.refl _ _).alloc (Nat.le_refl _) _
        replace hu := hu.below hbw9 (Nat.le_refl _)
        obtain ⟨cx0, cx1, cx2, cx3, cy0, cy1, cy2, cy3, cz0, cz1, cz2, cz3, sb⟩ := keepZ12 ⟨cx0, cx1, cx2, cx3, cy0, cy1, cy2, cy3, cz0, cz1, cz2, cz3, sb⟩ hbw9
        clear hbw9
        have HW := hide hw9
        clear hw9
        go_upto_region 10 with (fail)
        rw [HW.out]
        clear HW
        generalize w8.heap.size = g9 at hBu ⊢
        obtain ⟨u0, u1, -⟩ := hBu.c2
        go_wp2_with fail
        refine (FOf2_any _ hu sfl).mono ?_
        rintro e w10 ⟨v, rfl, hv, hb10⟩
        obtain ⟨vn, va, vl, vk, vm, vb, vi, vj, rfl, -, -⟩ := FracV.parts hv
        clear u0 u1
        obtain ⟨cx0, cx1, cx2, cx3, cy0, cy1, cy2, cy3, cz0, cz1, cz2, cz3, sb⟩ := keepZ12 ⟨cx0, cx1, cx2, cx3, cy0, cy1, cy2, cy3, cz0, cz1, cz2, cz3, sb⟩ hb10
        replace hBu := hBu.below hb10 hBu.lt
        replace hu := hu.below hb10 (Nat.le_refl _)
        clear hb10
        obtain ⟨w11, hw11⟩ : ∃ w11, w10.alloc (.cells #[.bool vn, .slice va vl vk, .bool vm, .slice vb vi vj] 58) = w11 := ⟨_, rfl⟩
        have hBv : Blk w11 w10.heap.size 58 #[.bool vn, .slice va vl vk, .bool vm, .slice vb vi vj] := by rw [← hw11]; exact Blk.new _ _ _
        have hbw11 : Below w10.heap.size w10 w11 := by rw [← hw11]; exact (Below.refl _ _).alloc (Nat.le_refl _) _
        replace hv := hv.below hbw11 (Nat.le_refl _)
        obtain ⟨cx0, cx1, cx2, cx3, cy0, cy1, cy2, cy3, cz0, cz1, cz2, cz3, sb⟩ := keepZ12 ⟨cx0, cx1, cx2, cx3, cy0, cy1, cy2, cy3, cz0, cz1, cz2, cz3, sb⟩ hbw11
        replace hBu := hBu.below hbw11 hBu.lt
        replace hu := hu.below hbw11 (Nat.le_refl _)
        clear hbw11
        have HW := hide hw11
        clear hw11
        go_upto_region 11 with (fail)
        rw [HW.out]
        clear HW
        generalize w10.heap.size = g11 at hBv ⊢
        obtain ⟨v0, v1, v2, v3, -⟩ := hBv.c4
        obtain ⟨zF, zO, zP⟩ := HQF.out
        have hXw := Hx.below sb (Nat.le_refl _)
        have hYw := Hy.below sb (Nat.le_refl _)
        have hZw := Hz.below sb (Nat.le_refl _)
        have sone : Sm 1 := sm_small (by decide)
        obtain ⟨C1, hC1⟩ : ∃ C, ordQ (p.floor : Rat) p = C := ⟨_, rfl⟩
        obtain ⟨C2, hC2⟩ : ∃ C, ordQ p q = C := ⟨_, rfl⟩
        generalize hD : decide (p.den = 1) = D
        have ef := ordQ_floor p
        rw [hC1] at ef
        have e1 : decide (C1 ≤ 0) = true := by rw [ef]; split <;> rfl
        have e2 : (C1 == 0) = D := by rw [ef, ← hD]; by_cases h : p.den = 1 <;> simp [h]
        have e3 : decide (C1 = 0) = D := by rw [ef, ← hD]; by_cases h : p.den = 1 <;> simp [h]
        have H1 := hide hC1
        have H2 := hide hC2
        have H3 := hide (ordQ_floor1 p)
        have H4 : Hid (ordQ (p + r) (q + r) = C2) := hide (by rw [ordQ_add]; exact hC2)
        have hBd := (Below.refl w11.heap.size w11).drew
        clear hC1 hC2 hD ef hBv hBu hu HQF
        refine wp_region_held_drew (S := fun w' => w'.cell? ⟨w.heap.size, 0, none⟩ = some (.bool xn) ∧ w'.cell? ⟨w.heap.size, 1, none⟩ = some (.slice xa xl xk) ∧ w'.cell? ⟨w.heap.size, 2, none⟩ = some (.bool xm) ∧ w'.cell? ⟨w.heap.size, 3, none⟩ = some (.slice xb xi xj) ∧ w'.cell? ⟨w.heap.size + 1, 0, none⟩ = some (.bool yn) ∧ w'.cell? ⟨w.heap.size + 1, 1, none⟩ = some (.slice ya yl yk) ∧ w'.cell? ⟨w.heap.size + 1, 2, none⟩ = some (.bool ym) ∧ w'.cell? ⟨w.heap.size + 1, 3, none⟩ = some (.slice yb yi yj) ∧ w'.cell? ⟨w.heap.size + 1 + 1, 0, none⟩ = some (.bool zn) ∧ w'.cell? ⟨w.heap.size + 1 + 1, 1, none⟩ = some (.slice za zl zk) ∧ w'.cell? ⟨w.heap.size + 1 + 1, 2, none⟩ = some (.bool zm) ∧ w'.cell? ⟨w.heap.size + 1 + 1, 3, none⟩ = some (.slice zb zi zj) ∧ w'.cell? ⟨g11, 0, none⟩ = some (.bool vn) ∧ w'.cell? ⟨g11, 1, none⟩ = some (.slice va vl vk) ∧ w'.cell? ⟨g11, 2, none⟩ = some (.bool vm) ∧ w'.cell? ⟨g11, 3, none⟩ = some (.slice vb vi vj) ∧ Below w11.heap.size w11 w') (by kernel_rfl) (⟨cx0, cx1, cx2, cx3, cy0, cy1, cy2, cy3, cz0, cz1, cz2, cz3, v0, v1, v2, v3, hBd⟩) (fun hS => ?_)
        refine wpAnyH_take (i := 0) (oi := { dst := some 84, op := Op.load 58 (Operand.tmp 9), type := 58, pos := "law.go:71", after := #[], guard := none }) (v := ?_) rfl (by kernel_rfl) (by kernel_rfl) (by kernel_rfl) (fun _ _ _ h => h) (Or.inl ⟨by rfl, ?_⟩) hS ?_
        rotate_left
        · (intro w' hSw; (try dsimp only at hSw); go_simp; try with_reducible rfl)
        try simp only [Act.put, List.setIfInBounds_toArray, List.set_cons_zero, List.set_cons_succ]
        refine wpAnyH_take (i := 1) (oi := { dst := some 85, op := Op.load 58 (Operand.tmp 3), type := 58, pos := "law.go:71", after := #[], guard := none }) (v := ?_) rfl (by kernel_rfl) (by kernel_rfl) (by kernel_rfl) (fun _ _ _ h => h) (Or.inl ⟨by rfl, ?_⟩) hS ?_
        rotate_left
        · (intro w' hSw; (try dsimp only at hSw); go_simp; try with_reducible rfl)
        try simp only [Act.put, List.setIfInBounds_toArray, List.set_cons_zero, List.set_cons_succ]
        refine wpAnyH_ready (rs := [2]) (by kernel_rfl) (by simp) ?_
        refine AllReadyH.cons (o := { dst := some 86, op := Op.call { callee := Callee.value (Operand.func 46), args := #[Operand.tmp 84, Operand.tmp 85], argTypes := #[58, 58] }, type := 3, pos := "law.go:71", after := #[{ on := 0, ground := Ground.data }, { on := 1, ground := Ground.data }], guard := none }) rfl (fun K hK => ?_) AllReadyH.nil
        go_simp
        (go_at_call 46; (with_reducible refine (FCmp_at (hv.below (hS.2.2.2.2.2.2.2.2.2.2.2.2.2.2.2.2) (Nat.le_refl _)) (hXw.below (hS.2.2.2.2.2.2.2.2.2.2.2.2.2.2.2.2) (Nat.le_refl _)) zF zx H1.out).mono ?_); rintro e wn ⟨rfl, hb1⟩)
        go_wp2_with fail
        refine hK.out _ _ (⟨cellK hb1 hS.1, cellK hb1 hS.2.1, cellK hb1 hS.2.2.1, cellK hb1 hS.2.2.2.1, cellK hb1 hS.2.2.2.2.1, cellK hb1 hS.2.2.2.2.2.1, cellK hb1 hS.2.2.2.2.2.2.1, cellK hb1 hS.2.2.2.2.2.2.2.1, cellK hb1 hS.2.2.2.2.2.2.2.2.1, cellK hb1 hS.2.2.2.2.2.2.2.2.2.1, cellK hb1 hS.2.2.2.2.2.2.2.2.2.2.1, cellK hb1 hS.2.2.2.2.2.2.2.2.2.2.2.1, cellK hb1 hS.2.2.2.2.2.2.2.2.2.2.2.2.1, cellK hb1 hS.2.2.2.2.2.2.2.2.2.2.2.2.2.1, cellK hb1 hS.2.2.2.2.2.2.2.2.2.2.2.2.2.2.1, cellK hb1 hS.2.2.2.2.2.2.2.2.2.2.2.2.2.2.2.1, (hS.2.2.2.2.2.2.2.2.2.2.2.2.2.2.2.2).trans (hb1.mono (hS.2.2.2.2.2.2.2.2.2.2.2.2.2.2.2.2).size)⟩) (fun hS => ?_)
        clear hK K hb1
        try simp only [Act.put, List.setIfInBounds_toArray, List.set_cons_zero, List.set_cons_succ]
        refine wpAnyH_take (i := 3) (oi := { dst := some 87, op := Op.binOp BinOp.leq 3 (Operand.tmp 86) (Operand.const (Value.int IntKind.i64 0)) 3, type := 4, pos := "law.go:71", after := #[{ on := 2, ground := Ground.data }], guard := none }) (v := ?_) rfl (by kernel_rfl) (by kernel_rfl) (by kernel_rfl) (fun _ _ _ h => h) (Or.inl ⟨by rfl, ?_⟩) hS ?_
        rotate_left
        · (intro w' hSw; (try dsimp only at hSw); go_simp; try with_reducible rfl)
        try simp only [Act.put, List.setIfInBounds_toArray, List.set_cons_zero, List.set_cons_succ]
        refine wpAnyH_take (i := 4) (oi := { dst := some 88, op := Op.move (Operand.tmp 87), type := 4, pos := "law.go:71", after := #[{ on := 3, ground := Ground.data }, { on := 2, ground := Ground.chain }], guard := none }) (v := ?_) rfl (by kernel_rfl) (by kernel_rfl) (by kernel_rfl) (fun _ _ _ h => h) (Or.inl ⟨by rfl, ?_⟩) hS ?_
        rotate_left
        · (intro w' hSw; (try dsimp only at hSw); go_simp; try with_reducible rfl)
        try simp only [Act.put, List.setIfInBounds_toArray, List.set_cons_zero, List.set_cons_succ]
        refine wpAnyH_take (i := 5) (oi := { dst := some 89, op := Op.load 58 (Operand.tmp 3), type := 58, pos := "law.go:71", after := #[{ on := 4, ground := Ground.guard }], guard := some (4, true) }) (v := ?_) rfl (by kernel_rfl) (by kernel_rfl) (by kernel_rfl) (fun _ _ _ h => h) (Or.inl ⟨by rfl, ?_⟩) hS ?_
        rotate_left
        · (intro w' hSw; (try dsimp only at hSw); go_simp; try with_reducible rfl)
        try simp only [Act.put, List.setIfInBounds_toArray, List.set_cons_zero, List.set_cons_succ]
        refine wpAnyH_take (i := 6) (oi := { dst := some 90, op := Op.load 58 (Operand.tmp 9), type := 58, pos := "law.go:71", after := #[{ on := 4, ground := Ground.guard }], guard := some (4, true) }) (v := ?_) rfl (by kernel_rfl) (by kernel_rfl) (by kernel_rfl) (fun _ _ _ h => h) (Or.inl ⟨by rfl, ?_⟩) hS ?_
        rotate_left
        · (intro w' hSw; (try dsimp only at hSw); go_simp; try with_reducible rfl)
        try simp only [Act.put, List.setIfInBounds_toArray, List.set_cons_zero, List.set_cons_succ]
        refine wpAnyH_ready (rs := [7]) (by kernel_rfl) (by simp) ?_
        refine AllReadyH.cons (o := { dst := some 91, op := Op.call { callee := Callee.value (Operand.func 18), args := #[Operand.const (Value.int IntKind.i64 1)], argTypes := #[2] }, type := 24, pos := "law.go:71", after := #[{ on := 4, ground := Ground.chain }, { on := 4, ground := Ground.guard }], guard := some (4, true) }) rfl (fun K hK => ?_) AllReadyH.nil
        go_simp
        (go_at_call 18; (with_reducible refine (Of_any 1 _ (by decide) (by decide)).mono ?_); rintro e wn ⟨rA, rfl, hA, hb1⟩)
        go_wp2_with fail
        refine hK.out _ _ (⟨cellK hb1 hS.1, cellK hb1 hS.2.1, cellK hb1 hS.2.2.1, cellK hb1 hS.2.2.2.1, cellK hb1 hS.2.2.2.2.1, cellK hb1 hS.2.2.2.2.2.1, cellK hb1 hS.2.2.2.2.2.2.1, cellK hb1 hS.2.2.2.2.2.2.2.1, cellK hb1 hS.2.2.2.2.2.2.2.2.1, cellK hb1 hS.2.2.2.2.2.2.2.2.2.1, cellK hb1 hS.2.2.2.2.2.2.2.2.2.2.1, cellK hb1 hS.2.2.2.2.2.2.2.2.2.2.2.1, cellK hb1 hS.2.2.2.2.2.2.2.2.2.2.2.2.1, cellK hb1 hS.2.2.2.2.2.2.2.2.2.2.2.2.2.1, cellK hb1 hS.2.2.2.2.2.2.2.2.2.2.2.2.2.2.1, cellK hb1 hS.2.2.2.2.2.2.2.2.2.2.2.2.2.2.2.1, (hS.2.2.2.2.2.2.2.2.2.2.2.2.2.2.2.2).trans (hb1.mono (hS.2.2.2.2.2.2.2.2.2.2.2.2.2.2.2.2).size)⟩) (fun hS => ?_)
        clear hK K hb1
        try simp only [Act.put, List.setIfInBounds_toArray, List.set_cons_zero, List.set_cons_succ]
        refine wpAnyH_ready (rs := [8]) (by kernel_rfl) (by simp) ?_
        refine AllReadyH.cons (o := { dst := some 92, op := Op.call { callee := Callee.value (Operand.func 44), args := #[Operand.tmp 91], argTypes := #[24] }, type := 58, pos := "law.go:71", after := #[{ on := 7, ground := Ground.data }, { on := 7, ground := Ground.chain }, { on := 4, ground := Ground.guard }], guard := some (4, true) }) rfl (fun K hK => ?_) AllReadyH.nil
        go_simp
        (go_at_call 44; (with_reducible refine (FOf2_any _ hA sone).mono ?_); rintro e wn ⟨rB, rfl, hB, hb1⟩)
        go_wp2_with fail
        refine hK.out _ _ (⟨cellK hb1 hS.1, cellK hb1 hS.2.1, cellK hb1 hS.2.2.1, cellK hb1 hS.2.2.2.1, cellK hb1 hS.2.2.2.2.1, cellK hb1 hS.2.2.2.2.2.1, cellK hb1 hS.2.2.2.2.2.2.1, cellK hb1 hS.2.2.2.2.2.2.2.1, cellK hb1 hS.2.2.2.2.2.2.2.2.1, cellK hb1 hS.2.2.2.2.2.2.2.2.2.1, cellK hb1 hS.2.2.2.2.2.2.2.2.2.2.1, cellK hb1 hS.2.2.2.2.2.2.2.2.2.2.2.1, cellK hb1 hS.2.2.2.2.2.2.2.2.2.2.2.2.1, cellK hb1 hS.2.2.2.2.2.2.2.2.2.2.2.2.2.1, cellK hb1 hS.2.2.2.2.2.2.2.2.2.2.2.2.2.2.1, cellK hb1 hS.2.2.2.2.2.2.2.2.2.2.2.2.2.2.2.1, (hS.2.2.2.2.2.2.2.2.2.2.2.2.2.2.2.2).trans (hb1.mono (hS.2.2.2.2.2.2.2.2.2.2.2.2.2.2.2.2).size)⟩) (fun hS => ?_)
        clear hK K hb1
        try simp only [Act.put, List.setIfInBounds_toArray, List.set_cons_zero, List.set_cons_succ]
        refine wpAnyH_ready (rs := [9]) (by kernel_rfl) (by simp) ?_
        refine AllReadyH.cons (o := { dst := some 93, op := Op.call { callee := Callee.value (Operand.func 53), args := #[Operand.tmp 90, Operand.tmp 92], argTypes := #[58, 58] }, type := 58, pos := "law.go:71", after := #[{ on := 6, ground := Ground.data }, { on := 8, ground := Ground.data }, { on := 8, ground := Ground.chain }, { on := 4, ground := Ground.guard }], guard := some (4, true) }) rfl (fun K hK => ?_) AllReadyH.nil
        go_simp
        (go_at_call 53; (with_reducible refine (FAdd_any _ (hv.below (hS.2.2.2.2.2.2.2.2.2.2.2.2.2.2.2.2) (Nat.le_refl _)) hB zF zO).mono ?_); rintro e wn ⟨rC, rfl, hC, hb1⟩)
        go_wp2_with fail
        refine hK.out _ _ (⟨cellK hb1 hS.1, cellK hb1 hS.2.1, cellK hb1 hS.2.2.1, cellK hb1 hS.2.2.2.1, cellK hb1 hS.2.2.2.2.1, cellK hb1 hS.2.2.2.2.2.1, cellK hb1 hS.2.2.2.2.2.2.1, cellK hb1 hS.2.2.2.2.2.2.2.1, cellK hb1 hS.2.2.2.2.2.2.2.2.1, cellK hb1 hS.2.2.2.2.2.2.2.2.2.1, cellK hb1 hS.2.2.2.2.2.2.2.2.2.2.1, cellK hb1 hS.2.2.2.2.2.2.2.2.2.2.2.1, cellK hb1 hS.2.2.2.2.2.2.2.2.2.2.2.2.1, cellK hb1 hS.2.2.2.2.2.2.2.2.2.2.2.2.2.1, cellK hb1 hS.2.2.2.2.2.2.2.2.2.2.2.2.2.2.1, cellK hb1 hS.2.2.2.2.2.2.2.2.2.2.2.2.2.2.2.1, (hS.2.2.2.2.2.2.2.2.2.2.2.2.2.2.2.2).trans (hb1.mono (hS.2.2.2.2.2.2.2.2.2.2.2.2.2.2.2.2).size)⟩) (fun hS => ?_)
        clear hK K hb1
        try simp only [Act.put, List.setIfInBounds_toArray, List.set_cons_zero, List.set_cons_succ]
        refine wpAnyH_ready (rs := [10]) (by kernel_rfl) (by simp) ?_
        refine AllReadyH.cons (o := { dst := some 94, op := Op.call { callee := Callee.value (Operand.func 46), args := #[Operand.tmp 89, Operand.tmp 93], argTypes := #[58, 58] }, type := 3, pos := "law.go:71", after := #[{ on := 5, ground := Ground.data }, { on := 9, ground := Ground.data }, { on := 9, ground := Ground.chain }, { on := 4, ground := Ground.guard }], guard := some (4, true) }) rfl (fun K hK => ?_) AllReadyH.nil
        go_simp
        (go_at_call 46; (with_reducible refine (FCmp_at (hXw.below (hS.2.2.2.2.2.2.2.2.2.2.2.2.2.2.2.2) (Nat.le_refl _)) hC zx zP H3.out).mono ?_); rintro e wn ⟨rfl, hb1⟩)
        go_wp2_with fail
        refine hK.out _ _ (⟨cellK hb1 hS.1, cellK hb1 hS.2.1, cellK hb1 hS.2.2.1, cellK hb1 hS.2.2.2.1, cellK hb1 hS.2.2.2.2.1, cellK hb1 hS.2.2.2.2.2.1, cellK hb1 hS.2.2.2.2.2.2.1, cellK hb1 hS.2.2.2.2.2.2.2.1, cellK hb1 hS.2.2.2.2.2.2.2.2.1, cellK hb1 hS.2.2.2.2.2.2.2.2.2.1, cellK hb1 hS.2.2.2.2.2.2.2.2.2.2.1, cellK hb1 hS.2.2.2.2.2.2.2.2.2.2.2.1, cellK hb1 hS.2.2.2.2.2.2.2.2.2.2.2.2.1, cellK hb1 hS.2.2.2.2.2.2.2.2.2.2.2.2.2.1, cellK hb1 hS.2.2.2.2.2.2.2.2.2.2.2.2.2.2.1, cellK hb1 hS.2.2.2.2.2.2.2.2.2.2.2.2.2.2.2.1, (hS.2.2.2.2.2.2.2.2.2.2.2.2.2.2.2.2).trans (hb1.mono (hS.2.2.2.2.2.2.2.2.2.2.2.2.2.2.2.2).size)⟩) (fun hS => ?_)
        clear hK K hb1
        try simp only [Act.put, List.setIfInBounds_toArray, List.set_cons_zero, List.set_cons_succ]
        refine wpAnyH_take (i := 11) (oi := { dst := some 95, op := Op.binOp BinOp.lss 3 (Operand.tmp 94) (Operand.const (Value.int IntKind.i64 0)) 3, type := 4, pos := "law.go:71", after := #[{ on := 10, ground := Ground.data }, { on := 4, ground := Ground.guard }], guard := some (4, true) }) (v := ?_) rfl (by kernel_rfl) (by kernel_rfl) (by kernel_rfl) (fun _ _ _ h => h) (Or.inl ⟨by rfl, ?_⟩) hS ?_
        rotate_left
        · (intro w' hSw; (try dsimp only at hSw); go_simp; try with_reducible rfl)
        try simp only [Act.put, List.setIfInBounds_toArray, List.set_cons_zero, List.set_cons_succ]
        refine wpAnyH_take (i := 12) (oi := { dst := some 96, op := Op.pick (Operand.tmp 88) (Operand.tmp 95) (Operand.const (Value.bool false)), type := 4, pos := "law.go:71", after := #[{ on := 4, ground := Ground.data }, { on := 11, ground := Ground.data }], guard := none }) (v := ?_) rfl (by kernel_rfl) (by kernel_rfl) (by kernel_rfl) (fun _ _ _ h => h) (Or.inl ⟨by rfl, ?_⟩) hS ?_
        rotate_left
        · (intro w' hSw; (try dsimp only at hSw); go_simp; try with_reducible rfl)
        try simp only [Act.put, List.setIfInBounds_toArray, List.set_cons_zero, List.set_cons_succ]
        refine wpAnyH_take (i := 13) (oi := { dst := some 97, op := Op.move (Operand.tmp 96), type := 4, pos := "law.go:71", after := #[{ on := 12, ground := Ground.data }, { on := 10, ground := Ground.chain }], guard := none }) (v := ?_) rfl (by kernel_rfl) (by kernel_rfl) (by kernel_rfl) (fun _ _ _ h => h) (Or.inl ⟨by rfl, ?_⟩) hS ?_
        rotate_left
        · (intro w' hSw; (try dsimp only at hSw); go_simp; try with_reducible rfl)
        try simp only [Act.put, List.setIfInBounds_toArray, List.set_cons_zero, List.set_cons_succ]
        refine wpAnyH_take (i := 14) (oi := { dst := some 98, op := Op.move (Operand.tmp 8), type := 4, pos := "law.go:71", after := #[{ on := 13, ground := Ground.guard }], guard := some (13, true) }) (v := ?_) rfl (by kernel_rfl) (by kernel_rfl) (by kernel_rfl) (fun _ _ _ h => h) (Or.inl ⟨by rfl, ?_⟩) hS ?_
        rotate_left
        · (intro w' hSw; (try dsimp only at hSw); go_simp; try with_reducible rfl)
        try simp only [Act.put, List.setIfInBounds_toArray, List.set_cons_zero, List.set_cons_succ]
        refine wpAnyH_take (i := 15) (oi := { dst := some 99, op := Op.load 58 (Operand.tmp 9), type := 58, pos := "law.go:71", after := #[{ on := 13, ground := Ground.guard }], guard := some (13, true) }) (v := ?_) rfl (by kernel_rfl) (by kernel_rfl) (by kernel_rfl) (fun _ _ _ h => h) (Or.inl ⟨by rfl, ?_⟩) hS ?_
        rotate_left
        · (intro w' hSw; (try dsimp only at hSw); go_simp; try with_reducible rfl)
        try simp only [Act.put, List.setIfInBounds_toArray, List.set_cons_zero, List.set_cons_succ]
        refine wpAnyH_take (i := 16) (oi := { dst := some 100, op := Op.load 58 (Operand.tmp 3), type := 58, pos := "law.go:71", after := #[{ on := 13, ground := Ground.guard }], guard := some (13, true) }) (v := ?_) rfl (by kernel_rfl) (by kernel_rfl) (by kernel_rfl) (fun _ _ _ h => h) (Or.inl ⟨by rfl, ?_⟩) hS ?_
        rotate_left
        · (intro w' hSw; (try dsimp only at hSw); go_simp; try with_reducible rfl)
        try simp only [Act.put, List.setIfInBounds_toArray, List.set_cons_zero, List.set_cons_succ]
        refine wpAnyH_ready (rs := [17]) (by kernel_rfl) (by simp) ?_
        refine AllReadyH.cons (o := { dst := some 101, op := Op.call { callee := Callee.value (Operand.func 46), args := #[Operand.tmp 99, Operand.tmp 100], argTypes := #[58, 58] }, type := 3, pos := "law.go:71", after := #[{ on := 15, ground := Ground.data }, { on := 16, ground := Ground.data }, { on := 13, ground := Ground.chain }, { on := 13, ground := Ground.guard }], guard := some (13, true) }) rfl (fun K hK => ?_) AllReadyH.nil
        go_simp
        (go_at_call 46; (with_reducible refine (FCmp_at (hv.below (hS.2.2.2.2.2.2.2.2.2.2.2.2.2.2.2.2) (Nat.le_refl _)) (hXw.below (hS.2.2.2.2.2.2.2.2.2.2.2.2.2.2.2.2) (Nat.le_refl _)) zF zx H1.out).mono ?_); rintro e wn ⟨rfl, hb1⟩)
        go_wp2_with fail
        refine hK.out _ _ (⟨cellK hb1 hS.1, cellK hb1 hS.2.1, cellK hb1 hS.2.2.1, cellK hb1 hS.2.2.2.1, cellK hb1 hS.2.2.2.2.1, cellK hb1 hS.2.2.2.2.2.1, cellK hb1 hS.2.2.2.2.2.2.1, cellK hb1 hS.2.2.2.2.2.2.2.1, cellK hb1 hS.2.2.2.2.2.2.2.2.1, cellK hb1 hS.2.2.2.2.2.2.2.2.2.1, cellK hb1 hS.2.2.2.2.2.2.2.2.2.2.1, cellK hb1 hS.2.2.2.2.2.2.2.2.2.2.2.1, cellK hb1 hS.2.2.2.2.2.2.2.2.2.2.2.2.1, cellK hb1 hS.2.2.2.2.2.2.2.2.2.2.2.2.2.1, cellK hb1 hS.2.2.2.2.2.2.2.2.2.2.2.2.2.2.1, cellK hb1 hS.2.2.2.2.2.2.2.2.2.2.2.2.2.2.2.1, (hS.2.2.2.2.2.2.2.2.2.2.2.2.2.2.2.2).trans (hb1.mono (hS.2.2.2.2.2.2.2.2.2.2.2.2.2.2.2.2).size)⟩) (fun hS => ?_)
        clear hK K hb1
        try simp only [Act.put, List.setIfInBounds_toArray, List.set_cons_zero, List.set_cons_succ]
        refine wpAnyH_take (i := 18) (oi := { dst := some 102, op := Op.binOp BinOp.eql 3 (Operand.tmp 101) (Operand.const (Value.int IntKind.i64 0)) 3, type := 4, pos := "law.go:71", after := #[{ on := 17, ground := Ground.data }, { on := 13, ground := Ground.guard }], guard := some (13, true) }) (v := ?_) rfl (by kernel_rfl) (by kernel_rfl) (by kernel_rfl) (fun _ _ _ h => h) (Or.inl ⟨by rfl, ?_⟩) hS ?_
        rotate_left
        · (intro w' hSw; (try dsimp only at hSw); go_simp; try with_reducible rfl)
        try simp only [Act.put, List.setIfInBounds_toArray, List.set_cons_zero, List.set_cons_succ]
        refine wpAnyH_take (i := 19) (oi := { dst := some 103, op := Op.binOp BinOp.eql 4 (Operand.tmp 98) (Operand.tmp 102) 4, type := 4, pos := "law.go:71", after := #[{ on := 14, ground := Ground.data }, { on := 18, ground := Ground.data }, { on := 13, ground := Ground.guard }], guard := some (13, true) }) (v := ?_) rfl (by kernel_rfl) (by kernel_rfl) (by kernel_rfl) (fun _ _ _ h => h) (Or.inl ⟨by rfl, ?_⟩) hS ?_
        rotate_left
        · (intro w' hSw; (try dsimp only at hSw); go_simp; try with_reducible rfl)
        try simp only [Act.put, List.setIfInBounds_toArray, List.set_cons_zero, List.set_cons_succ]
        refine wpAnyH_take (i := 20) (oi := { dst := some 104, op := Op.pick (Operand.tmp 97) (Operand.tmp 103) (Operand.const (Value.bool false)), type := 4, pos := "law.go:71", after := #[{ on := 13, ground := Ground.data }, { on := 19, ground := Ground.data }], guard := none }) (v := ?_) rfl (by kernel_rfl) (by kernel_rfl) (by kernel_rfl) (fun _ _ _ h => h) (Or.inl ⟨by rfl, ?_⟩) hS ?_
        rotate_left
        · (intro w' hSw; (try dsimp only at hSw); go_simp; try with_reducible rfl)
        try simp only [Act.put, List.setIfInBounds_toArray, List.set_cons_zero, List.set_cons_succ]
        refine wpAnyH_take (i := 21) (oi := { dst := some 105, op := Op.move (Operand.tmp 104), type := 4, pos := "law.go:71", after := #[{ on := 20, ground := Ground.data }, { on := 17, ground := Ground.chain }], guard := none }) (v := ?_) rfl (by kernel_rfl) (by kernel_rfl) (by kernel_rfl) (fun _ _ _ h => h) (Or.inl ⟨by rfl, ?_⟩) hS ?_
        rotate_left
        · (intro w' hSw; (try dsimp only at hSw); go_simp; try with_reducible rfl)
        try simp only [Act.put, List.setIfInBounds_toArray, List.set_cons_zero, List.set_cons_succ]
        refine wpAnyH_take (i := 22) (oi := { dst := some 106, op := Op.load 58 (Operand.tmp 3), type := 58, pos := "law.go:71", after := #[{ on := 21, ground := Ground.guard }], guard := some (21, true) }) (v := ?_) rfl (by kernel_rfl) (by kernel_rfl) (by kernel_rfl) (fun _ _ _ h => h) (Or.inl ⟨by rfl, ?_⟩) hS ?_
        rotate_left
        · (intro w' hSw; (try dsimp only at hSw); go_simp; try with_reducible rfl)
        try simp only [Act.put, List.setIfInBounds_toArray, List.set_cons_zero, List.set_cons_succ]
        refine wpAnyH_take (i := 23) (oi := { dst := some 107, op := Op.load 58 (Operand.tmp 4), type := 58, pos := "law.go:71", after := #[{ on := 21, ground := Ground.guard }], guard := some (21, true) }) (v := ?_) rfl (by kernel_rfl) (by kernel_rfl) (by kernel_rfl) (fun _ _ _ h => h) (Or.inl ⟨by rfl, ?_⟩) hS ?_
        rotate_left
        · (intro w' hSw; (try dsimp only at hSw); go_simp; try with_reducible rfl)
        try simp only [Act.put, List.setIfInBounds_toArray, List.set_cons_zero, List.set_cons_succ]
        refine wpAnyH_take (i := 25) (oi := { dst := some 109, op := Op.load 58 (Operand.tmp 3), type := 58, pos := "law.go:71", after := #[{ on := 21, ground := Ground.guard }], guard := some (21, true) }) (v := ?_) rfl (by kernel_rfl) (by kernel_rfl) (by kernel_rfl) (fun _ _ _ h => h) (Or.inl ⟨by rfl, ?_⟩) hS ?_
        rotate_left
        · (intro w' hSw; (try dsimp only at hSw); go_simp; try with_reducible rfl)
        try simp only [Act.put, List.setIfInBounds_toArray, List.set_cons_zero, List.set_cons_succ]
        refine wpAnyH_take (i := 26) (oi := { dst := some 110, op := Op.load 58 (Operand.tmp 5), type := 58, pos := "law.go:71", after := #[{ on := 21, ground := Ground.guard }], guard := some (21, true) }) (v := ?_) rfl (by kernel_rfl) (by kernel_rfl) (by kernel_rfl) (fun _ _ _ h => h) (Or.inl ⟨by rfl, ?_⟩) hS ?_
        rotate_left
        · (intro w' hSw; (try dsimp only at hSw); go_simp; try with_reducible rfl)
        try simp only [Act.put, List.setIfInBounds_toArray, List.set_cons_zero, List.set_cons_succ]
        refine wpAnyH_take (i := 28) (oi := { dst := some 112, op := Op.load 58 (Operand.tmp 4), type := 58, pos := "law.go:71", after := #[{ on := 21, ground := Ground.guard }], guard := some (21, true) }) (v := ?_) rfl (by kernel_rfl) (by kernel_rfl) (by kernel_rfl) (fun _ _ _ h => h) (Or.inl ⟨by rfl, ?_⟩) hS ?_
        rotate_left
        · (intro w' hSw; (try dsimp only at hSw); go_simp; try with_reducible rfl)
        try simp only [Act.put, List.setIfInBounds_toArray, List.set_cons_zero, List.set_cons_succ]
        refine wpAnyH_take (i := 29) (oi := { dst := some 113, op := Op.load 58 (Operand.tmp 5), type := 58, pos := "law.go:71", after := #[{ on := 21, ground := Ground.guard }], guard := some (21, true) }) (v := ?_) rfl (by kernel_rfl) (by kernel_rfl) (by kernel_rfl) (fun _ _ _ h => h) (Or.inl ⟨by rfl, ?_⟩) hS ?_
        rotate_left
        · (intro w' hSw; (try dsimp only at hSw); go_simp; try with_reducible rfl)
        try simp only [Act.put, List.setIfInBounds_toArray, List.set_cons_zero, List.set_cons_succ]
        refine wpAnyH_ready (rs := [24]) (by kernel_rfl) (by simp) ?_
        refine AllReadyH.cons (o := { dst := some 108, op := Op.call { callee := Callee.value (Operand.func 46), args := #[Operand.tmp 106, Operand.tmp 107], argTypes := #[58, 58] }, type := 3, pos := "law.go:71", after := #[{ on := 22, ground := Ground.data }, { on := 23, ground := Ground.data }, { on := 21, ground := Ground.chain }, { on := 21, ground := Ground.guard }], guard := some (21, true) }) rfl (fun K hK => ?_) AllReadyH.nil
        go_simp
        (go_at_call 46; (with_reducible refine (FCmp_at (hXw.below (hS.2.2.2.2.2.2.2.2.2.2.2.2.2.2.2.2) (Nat.le_refl _)) (hYw.below (hS.2.2.2.2.2.2.2.2.2.2.2.2.2.2.2.2) (Nat.le_refl _)) zx zy H2.out).mono ?_); rintro e wn ⟨rfl, hb1⟩)
        go_wp2_with fail
        refine hK.out _ _ (⟨cellK hb1 hS.1, cellK hb1 hS.2.1, cellK hb1 hS.2.2.1, cellK hb1 hS.2.2.2.1, cellK hb1 hS.2.2.2.2.1, cellK hb1 hS.2.2.2.2.2.1, cellK hb1 hS.2.2.2.2.2.2.1, cellK hb1 hS.2.2.2.2.2.2.2.1, cellK hb1 hS.2.2.2.2.2.2.2.2.1, cellK hb1 hS.2.2.2.2.2.2.2.2.2.1, cellK hb1 hS.2.2.2.2.2.2.2.2.2.2.1, cellK hb1 hS.2.2.2.2.2.2.2.2.2.2.2.1, cellK hb1 hS.2.2.2.2.2.2.2.2.2.2.2.2.1, cellK hb1 hS.2.2.2.2.2.2.2.2.2.2.2.2.2.1, cellK hb1 hS.2.2.2.2.2.2.2.2.2.2.2.2.2.2.1, cellK hb1 hS.2.2.2.2.2.2.2.2.2.2.2.2.2.2.2.1, (hS.2.2.2.2.2.2.2.2.2.2.2.2.2.2.2.2).trans (hb1.mono (hS.2.2.2.2.2.2.2.2.2.2.2.2.2.2.2.2).size)⟩) (fun hS => ?_)
        clear hK K hb1
        try simp only [Act.put, List.setIfInBounds_toArray, List.set_cons_zero, List.set_cons_succ]
        refine wpAnyH_ready (rs := [27]) (by kernel_rfl) (by simp) ?_
        refine AllReadyH.cons (o := { dst := some 111, op := Op.call { callee := Callee.value (Operand.func 53), args := #[Operand.tmp 109, Operand.tmp 110], argTypes := #[58, 58] }, type := 58, pos := "law.go:71", after := #[{ on := 25, ground := Ground.data }, { on := 26, ground := Ground.data }, { on := 24, ground := Ground.chain }, { on := 21, ground := Ground.guard }], guard := some (21, true) }) rfl (fun K hK => ?_) AllReadyH.nil
        go_simp
        (go_at_call 53; (with_reducible refine (FAdd_any _ (hXw.below (hS.2.2.2.2.2.2.2.2.2.2.2.2.2.2.2.2) (Nat.le_refl _)) (hZw.below (hS.2.2.2.2.2.2.2.2.2.2.2.2.2.2.2.2) (Nat.le_refl _)) zx zz).mono ?_); rintro e wn ⟨rA, rfl, hA, hb1⟩)
        go_wp2_with fail
        refine hK.out _ _ (⟨cellK hb1 hS.1, cellK hb1 hS.2.1, cellK hb1 hS.2.2.1, cellK hb1 hS.2.2.2.1, cellK hb1 hS.2.2.2.2.1, cellK hb1 hS.2.2.2.2.2.1, cellK hb1 hS.2.2.2.2.2.2.1, cellK hb1 hS.2.2.2.2.2.2.2.1, cellK hb1 hS.2.2.2.2.2.2.2.2.1, cellK hb1 hS.2.2.2.2.2.2.2.2.2.1, cellK hb1 hS.2.2.2.2.2.2.2.2.2.2.1, cellK hb1 hS.2.2.2.2.2.2.2.2.2.2.2.1, cellK hb1 hS.2.2.2.2.2.2.2.2.2.2.2.2.1, cellK hb1 hS.2.2.2.2.2.2.2.2.2.2.2.2.2.1, cellK hb1 hS.2.2.2.2.2.2.2.2.2.2.2.2.2.2.1, cellK hb1 hS.2.2.2.2.2.2.2.2.2.2.2.2.2.2.2.1, (hS.2.2.2.2.2.2.2.2.2.2.2.2.2.2.2.2).trans (hb1.mono (hS.2.2.2.2.2.2.2.2.2.2.2.2.2.2.2.2).size)⟩) (fun hS => ?_)
        clear hK K hb1
        try simp only [Act.put, List.setIfInBounds_toArray, List.set_cons_zero, List.set_cons_succ]
        refine wpAnyH_ready (rs := [30]) (by kernel_rfl) (by simp) ?_
        refine AllReadyH.cons (o := { dst := some 114, op := Op.call { callee := Callee.value (Operand.func 53), args := #[Operand.tmp 112, Operand.tmp 113], argTypes := #[58, 58] }, type := 58, pos := "law.go:71", after := #[{ on := 28, ground := Ground.data }, { on := 29, ground := Ground.data }, { on := 27, ground := Ground.chain }, { on := 21, ground := Ground.guard }], guard := some (21, true) }) rfl (fun K hK => ?_) AllReadyH.nil
        go_simp
        (go_at_call 53; (with_reducible refine (FAdd_any _ (hYw.below (hS.2.2.2.2.2.2.2.2.2.2.2.2.2.2.2.2) (Nat.le_refl _)) (hZw.below (hS.2.2.2.2.2.2.2.2.2.2.2.2.2.2.2.2) (Nat.le_refl _)) zy zz).mono ?_); rintro e wn ⟨rB, rfl, hB, hb1⟩; replace hA := hA.below hb1 (Nat.le_refl _))
        go_wp2_with fail
        refine hK.out _ _ (⟨cellK hb1 hS.1, cellK hb1 hS.2.1, cellK hb1 hS.2.2.1, cellK hb1 hS.2.2.2.1, cellK hb1 hS.2.2.2.2.1, cellK hb1 hS.2.2.2.2.2.1, cellK hb1 hS.2.2.2.2.2.2.1, cellK hb1 hS.2.2.2.2.2.2.2.1, cellK hb1 hS.2.2.2.2.2.2.2.2.1, cellK hb1 hS.2.2.2.2.2.2.2.2.2.1, cellK hb1 hS.2.2.2.2.2.2.2.2.2.2.1, cellK hb1 hS.2.2.2.2.2.2.2.2.2.2.2.1, cellK hb1 hS.2.2.2.2.2.2.2.2.2.2.2.2.1, cellK hb1 hS.2.2.2.2.2.2.2.2.2.2.2.2.2.1, cellK hb1 hS.2.2.2.2.2.2.2.2.2.2.2.2.2.2.1, cellK hb1 hS.2.2.2.2.2.2.2.2.2.2.2.2.2.2.2.1, (hS.2.2.2.2.2.2.2.2.2.2.2.2.2.2.2.2).trans (hb1.mono (hS.2.2.2.2.2.2.2.2.2.2.2.2.2.2.2.2).size)⟩) (fun hS => ?_)
        clear hK K hb1
        try simp only [Act.put, List.setIfInBounds_toArray, List.set_cons_zero, List.set_cons_succ]
        refine wpAnyH_ready (rs := [31]) (by kernel_rfl) (by simp) ?_
        refine AllReadyH.cons (o := { dst := some 115, op := Op.call { callee := Callee.value (Operand.func 46), args := #[Operand.tmp 111, Operand.tmp 114], argTypes := #[58, 58] }, type := 3, pos := "law.go:71", after := #[{ on := 27, ground := Ground.data }, { on := 30, ground := Ground.data }, { on := 30, ground := Ground.chain }, { on := 21, ground := Ground.guard }], guard := some (21, true) }) rfl (fun K hK => ?_) AllReadyH.nil
        go_simp
        (go_at_call 46; (with_reducible refine (FCmp_at hA hB zC zB H4.out).mono ?_); rintro e wn ⟨rfl, hb1⟩)
        go_wp2_with fail
        refine hK.out _ _ (⟨cellK hb1 hS.1, cellK hb1 hS.2.1, cellK hb1 hS.2.2.1, cellK hb1 hS.2.2.2.1, cellK hb1 hS.2.2.2.2.1, cellK hb1 hS.2.2.2.2.2.1, cellK hb1 hS.2.2.2.2.2.2.1, cellK hb1 hS.2.2.2.2.2.2.2.1, cellK hb1 hS.2.2.2.2.2.2.2.2.1, cellK hb1 hS.2.2.2.2.2.2.2.2.2.1, cellK hb1 hS.2.2.2.2.2.2.2.2.2.2.1, cellK hb1 hS.2.2.2.2.2.2.2.2.2.2.2.1, cellK hb1 hS.2.2.2.2.2.2.2.2.2.2.2.2.1, cellK hb1 hS.2.2.2.2.2.2.2.2.2.2.2.2.2.1, cellK hb1 hS.2.2.2.2.2.2.2.2.2.2.2.2.2.2.1, cellK hb1 hS.2.2.2.2.2.2.2.2.2.2.2.2.2.2.2.1, (hS.2.2.2.2.2.2.2.2.2.2.2.2.2.2.2.2).trans (hb1.mono (hS.2.2.2.2.2.2.2.2.2.2.2.2.2.2.2.2).size)⟩) (fun hS => ?_)
        clear hK K hb1
        try simp only [Act.put, List.setIfInBounds_toArray, List.set_cons_zero, List.set_cons_succ]
        refine wpAnyH_take (i := 32) (oi := { dst := some 116, op := Op.binOp BinOp.eql 3 (Operand.tmp 108) (Operand.tmp 115) 3, type := 4, pos := "law.go:71", after := #[{ on := 24, ground := Ground.data }, { on := 31, ground := Ground.data }, { on := 21, ground := Ground.guard }], guard := some (21, true) }) (v := ?_) rfl (by kernel_rfl) (by kernel_rfl) (by kernel_rfl) (fun _ _ _ h => h) (Or.inl ⟨by rfl, ?_⟩) hS ?_
        rotate_left
        · (intro w' hSw; (try dsimp only at hSw); go_simp; try with_reducible rfl)
        try simp only [Act.put, List.setIfInBounds_toArray, List.set_cons_zero, List.set_cons_succ]
        refine wpAnyH_take (i := 33) (oi := { dst := some 117, op := Op.pick (Operand.tmp 105) (Operand.tmp 116) (Operand.const (Value.bool false)), type := 4, pos := "law.go:71", after := #[{ on := 21, ground := Ground.data }, { on := 32, ground := Ground.data }], guard := none }) (v := ?_) rfl (by kernel_rfl) (by kernel_rfl) (by kernel_rfl) (fun _ _ _ h => h) (Or.inl ⟨by rfl, ?_⟩) hS ?_
        rotate_left
        · (intro w' hSw; (try dsimp only at hSw); go_simp; try with_reducible rfl)
        try simp only [Act.put, List.setIfInBounds_toArray, List.set_cons_zero, List.set_cons_succ]
        refine wpAnyH_take (i := 34) (oi := { dst := some 6, op := Op.assign (Operand.tmp 117), type := 4, pos := "law.go:71", after := #[{ on := 33, ground := Ground.data }, { on := 31, ground := Ground.chain }, { on := 0, ground := Ground.phase }, { on := 1, ground := Ground.phase }, { on := 2, ground := Ground.phase }, { on := 3, ground := Ground.phase }, { on := 4, ground := Ground.phase }, { on := 5, ground := Ground.phase }, { on := 6, ground := Ground.phase }, { on := 7, ground := Ground.phase }, { on := 8, ground := Ground.phase }, { on := 9, ground := Ground.phase }, { on := 10, ground := Ground.phase }, { on := 11, ground := Ground.phase }, { on := 12, ground := Ground.phase }, { on := 13, ground := Ground.phase }, { on := 14, ground := Ground.phase }, { on := 15, ground := Ground.phase }, { on := 16, ground := Ground.phase }, { on := 17, ground := Ground.phase }, { on := 18, ground := Ground.phase }, { on := 19, ground := Ground.phase }, { on := 20, ground := Ground.phase }, { on := 21, ground := Ground.phase }, { on := 22, ground := Ground.phase }, { on := 23, ground := Ground.phase }, { on := 24, ground := Ground.phase }, { on := 25, ground := Ground.phase }, { on := 26, ground := Ground.phase }, { on := 27, ground := Ground.phase }, { on := 28, ground := Ground.phase }, { on := 29, ground := Ground.phase }, { on := 30, ground := Ground.phase }, { on := 31, ground := Ground.phase }, { on := 32, ground := Ground.phase }, { on := 33, ground := Ground.phase }], guard := none }) (v := ?_) rfl (by kernel_rfl) (by kernel_rfl) (by kernel_rfl) (fun _ _ _ h => h) (Or.inl ⟨by rfl, ?_⟩) hS ?_
        rotate_left
        · (intro w' hSw; (try dsimp only at hSw); go_simp; try with_reducible rfl)
        try simp only [Act.put, List.setIfInBounds_toArray, List.set_cons_zero, List.set_cons_succ]
        refine wpAnyH_done (by kernel_rfl) ?_ _
        have hfin := sb.trans ((hS.2.2.2.2.2.2.2.2.2.2.2.2.2.2.2.2).mono sb.size)
        clear hS cx0 cx1 cx2 cx3 cy0 cy1 cy2 cy3 cz0 cz1 cz2 cz3 v0 v1 v2 v3
        go_wp2_with fail
        go_ret
        exact ⟨by simp, hfin⟩
end Go.Proofs.YthpibilefdmemaaDoor
