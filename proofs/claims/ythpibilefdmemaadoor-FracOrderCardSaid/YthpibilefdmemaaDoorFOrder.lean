/- The walk of the law FracOrder. -/
import Derived.Test.YthpibilefdmemaaDoorFOdd
namespace Go.Proofs.YthpibilefdmemaaDoor
open Go.RowKit

set_option maxRecDepth 100000 in
set_option maxHeartbeats 6400000 in
theorem forder_walk (x y z : RFr) (w : World) (hx : RFrOk w x) (hy : RFrOk w y) (hz : RFrOk w z) (ht : Tab w) :
    Calls Tryd.prog 8 #[x.val, y.val, z.val] w fun e w' => e = .returned (.bool true) ∧ Below w.heap.size w w' := by
  obtain ⟨W, hW⟩ : ∃ W, (((w.alloc (.cells #[.bool x.up.neg, .slice x.up.at_ x.up.ds.length x.up.cap, .bool x.dn.neg, .slice x.dn.at_ x.dn.ds.length x.dn.cap] 58)).alloc (.cells #[.bool y.up.neg, .slice y.up.at_ y.up.ds.length y.up.cap, .bool y.dn.neg, .slice y.dn.at_ y.dn.ds.length y.dn.cap] 58)).alloc (.cells #[.bool z.up.neg, .slice z.up.at_ z.up.ds.length z.up.cap, .bool z.dn.neg, .slice z.dn.at_ z.dn.ds.length z.dn.cap] 58)) = W := ⟨_, rfl⟩
  have bx : Blk W w.heap.size 58 #[.bool x.up.neg, .slice x.up.at_ x.up.ds.length x.up.cap, .bool x.dn.neg, .slice x.dn.at_ x.dn.ds.length x.dn.cap] := by rw [← hW]; exact ((Blk.new w _ _).alloc _).alloc _
  have by_ : Blk W (w.heap.size + 1) 58 #[.bool y.up.neg, .slice y.up.at_ y.up.ds.length y.up.cap, .bool y.dn.neg, .slice y.dn.at_ y.dn.ds.length y.dn.cap] := by rw [← hW]; exact (Blk.new_at _ _ _ (by simp)).alloc _
  have bz : Blk W (w.heap.size + 1 + 1) 58 #[.bool z.up.neg, .slice z.up.at_ z.up.ds.length z.up.cap, .bool z.dn.neg, .slice z.dn.at_ z.dn.ds.length z.dn.cap] := by rw [← hW]; exact Blk.new_at _ _ _ (by simp)
  have sb : Below w.heap.size w W := by rw [← hW]; exact (((Below.refl w.heap.size w).alloc (Nat.le_refl _) _).alloc (by simp) _).alloc (by simp; omega) _
  unfold RFr.val
  go_enter Tryd.func8, Tryd.ntmps8
  go_wp2_with fail
  refine (fspeaks_any W (ht.atBelow sb (Nat.le_refl _))).mono ?_
  rintro e w1 ⟨rfl, hb1⟩
  replace bx := bx.below hb1 bx.lt
  replace by_ := by_.below hb1 by_.lt
  replace bz := bz.below hb1 bz.lt
  replace sb := sb.trans (hb1.mono sb.size)
  clear hb1
  obtain ⟨cx0, cx1, cx2, cx3, -⟩ := bx.c4
  obtain ⟨cy0, cy1, cy2, cy3, -⟩ := by_.c4
  obtain ⟨cz0, cz1, cz2, cz3, -⟩ := bz.c4
  go_wp2_with fail
  refine (fodd3 x y z w1 (hx.below sb (Nat.le_refl _)) (hy.below sb (Nat.le_refl _)) (hz.below sb (Nat.le_refl _))).mono ?_
  rintro e w2 ⟨o, rfl, hb2, hodd⟩
  replace bx := bx.below hb2 bx.lt
  replace by_ := by_.below hb2 by_.lt
  replace bz := bz.below hb2 bz.lt
  replace sb := sb.trans (hb2.mono sb.size)
  cases o with
  | true =>
    clear cx0 cx1 cx2 cx3 cy0 cy1 cy2 cy3 cz0 cz1 cz2 cz3
    go_wp2_with fail
    go_ret
    exact ⟨rfl, sb⟩
  | false =>
    obtain ⟨gx, gy, gz⟩ := hodd rfl
    obtain ⟨p, Hx, Lx⟩ := hx.frac gx
    obtain ⟨q, Hy, Ly⟩ := hy.frac gy
    obtain ⟨r, Hz, Lz⟩ := hz.frac gz
    clear cx0 cx1 cx2 cx3 cy0 cy1 cy2 cy3 cz0 cz1 cz2 cz3 gx gy gz hodd hx hy hz hb2 hW
    obtain ⟨⟨xn, xa, xk, xds⟩, ⟨xm, xb, xj, xes⟩⟩ := x
    obtain ⟨⟨yn, ya, yk, yds⟩, ⟨ym, yb, yj, yes⟩⟩ := y
    obtain ⟨⟨zn, za, zk, zds⟩, ⟨zm, zb, zj, zes⟩⟩ := z
    unfold RFr.val at Hx Hy Hz
    simp only at Hx Hy Hz bx by_ bz ⊢
    generalize xds.length = xl at *
    generalize xes.length = xi at *
    generalize yds.length = yl at *
    generalize yes.length = yi at *
    generalize zds.length = zl at *
    generalize zes.length = zi at *
    obtain ⟨cx0, cx1, cx2, cx3, -⟩ := bx.c4
    obtain ⟨cy0, cy1, cy2, cy3, -⟩ := by_.c4
    obtain ⟨cz0, cz1, cz2, cz3, -⟩ := bz.c4
    clear bx by_ bz
    have zx := Lx.z (by decide)
    have zy := Ly.z (by decide)
    have zz := Lz.z (by decide)
    have HD : Hid (Qz (p * r) ∧ Qz (q * r) ∧ Qz (-p) ∧ Qz (-q)) := hide ⟨(Lx.mul Lz).z (by decide), (Ly.mul Lz).z (by decide), Lx.neg.z (by decide), Ly.neg.z (by decide)⟩
    obtain ⟨zA, zB, zM, zN⟩ := HD.out
    have z0 : Qz 0 := Qn.zero.z (by decide)
    have h1n : Qn 1 ((1 : Int) : Rat) := Qn.int (dg_len BB2 (by decide)) (by decide)
    have zO : Qz ((1 : Int) : Rat) := h1n.z (by decide)
    have HDV : Hid (Qz (((1 : Int) : Rat) / p) ∧ Qz (((1 : Int) : Rat) / q)) := hide ⟨(h1n.div Lx).z (by decide), (h1n.div Ly).z (by decide)⟩
    clear Lx Ly Lz HD h1n
    obtain ⟨C, hC⟩ : ∃ C, ordQ p q = C := ⟨_, rfl⟩
    obtain ⟨D, hD⟩ : ∃ D, ordQ r 0 = D := ⟨_, rfl⟩
    have HC := hide hC
    have HD := hide hD
    have cC : C = -1 ∨ C = 0 ∨ C = 1 := by rcases ordQ_cases p q with ⟨-, e⟩ | ⟨-, e⟩ | ⟨-, e⟩ <;> rw [← hC, e] <;> simp
    have cD : D = -1 ∨ D = 0 ∨ D = 1 := by rcases ordQ_cases r 0 with ⟨-, e⟩ | ⟨-, e⟩ | ⟨-, e⟩ <;> rw [← hD, e] <;> simp
    obtain ⟨E, hE⟩ : ∃ E, C * D = E := ⟨_, rfl⟩
    obtain ⟨N, hN⟩ : ∃ N, -C = N := ⟨_, rfl⟩
    have HM : Hid (ordQ (p * r) (q * r) = E) := hide (by rw [ordQ_mul, hC, hD, hE])
    have HN : Hid (ordQ (-p) (-q) = N) := hide (by rw [ordQ_neg, hC, hN])
    have hw1 : IntKind.i64.wrap (C * D) = E := by subst hE; rcases cC with rfl | rfl | rfl <;> rcases cD with rfl | rfl | rfl <;> rfl
    have hw2 : IntKind.i64.wrap (-C) = N := by subst hN; rcases cC with rfl | rfl | rfl <;> rfl
    have HNC := hide hN
    clear hC hD cC cD hE hN
    have sb1 := sb.drew
    go_upto_region 5 with (fail)
    go_cut [7, 8] from 17 to 22 (fun v7 v8 wc => v7 = .int .i64 C ∧ v8 = .int .i64 D ∧ (wc.cell? ⟨w.heap.size, 0, none⟩ = some (.bool xn) ∧ wc.cell? ⟨w.heap.size, 1, none⟩ = some (.slice xa xl xk) ∧ wc.cell? ⟨w.heap.size, 2, none⟩ = some (.bool xm) ∧ wc.cell? ⟨w.heap.size, 3, none⟩ = some (.slice xb xi xj) ∧ wc.cell? ⟨w.heap.size + 1, 0, none⟩ = some (.bool yn) ∧ wc.cell? ⟨w.heap.size + 1, 1, none⟩ = some (.slice ya yl yk) ∧ wc.cell? ⟨w.heap.size + 1, 2, none⟩ = some (.bool ym) ∧ wc.cell? ⟨w.heap.size + 1, 3, none⟩ = some (.slice yb yi yj) ∧ wc.cell? ⟨w.heap.size + 1 + 1, 0, none⟩ = some (.bool zn) ∧ wc.cell? ⟨w.heap.size + 1 + 1, 1, none⟩ = some (.slice za zl zk) ∧ wc.cell? ⟨w.heap.size + 1 + 1, 2, none⟩ = some (.bool zm) ∧ wc.cell? ⟨w.heap.size + 1 + 1, 3, none⟩ = some (.slice zb zi zj) ∧ Below w.heap.size w wc))
    case first =>
      refine wp_region_held_drew (S := fun w' => w'.cell? ⟨w.heap.size, 0, none⟩ = some (.bool xn) ∧ w'.cell? ⟨w.heap.size, 1, none⟩ = some (.slice xa xl xk) ∧ w'.cell? ⟨w.heap.size, 2, none⟩ = some (.bool xm) ∧ w'.cell? ⟨w.heap.size, 3, none⟩ = some (.slice xb xi xj) ∧ w'.cell? ⟨w.heap.size + 1, 0, none⟩ = some (.bool yn) ∧ w'.cell? ⟨w.heap.size + 1, 1, none⟩ = some (.slice ya yl yk) ∧ w'.cell? ⟨w.heap.size + 1, 2, none⟩ = some (.bool ym) ∧ w'.cell? ⟨w.heap.size + 1, 3, none⟩ = some (.slice yb yi yj) ∧ w'.cell? ⟨w.heap.size + 1 + 1, 0, none⟩ = some (.bool zn) ∧ w'.cell? ⟨w.heap.size + 1 + 1, 1, none⟩ = some (.slice za zl zk) ∧ w'.cell? ⟨w.heap.size + 1 + 1, 2, none⟩ = some (.bool zm) ∧ w'.cell? ⟨w.heap.size + 1 + 1, 3, none⟩ = some (.slice zb zi zj) ∧ Below w.heap.size w w') (by kernel_rfl) (⟨cx0, cx1, cx2, cx3, cy0, cy1, cy2, cy3, cz0, cz1, cz2, cz3, sb1⟩) (fun hS => ?_)
      refine wpAnyH_take (i := 0) (oi := { dst := some 17, op := Op.load 58 (Operand.tmp 3), type := 58, pos := "law.go:82", after := #[], guard := none }) (v := ?_) rfl (by kernel_rfl) (by kernel_rfl) (by kernel_rfl) (fun _ _ _ h => h) (Or.inl ⟨by rfl, ?_⟩) hS ?_
      rotate_left
      · (intro w' hSw; (try dsimp only at hSw); go_simp; try with_reducible rfl)
      try simp only [Act.put, List.setIfInBounds_toArray, List.set_cons_zero, List.set_cons_succ]
      refine wpAnyH_take (i := 1) (oi := { dst := some 18, op := Op.load 58 (Operand.tmp 4), type := 58, pos := "law.go:82", after := #[], guard := none }) (v := ?_) rfl (by kernel_rfl) (by kernel_rfl) (by kernel_rfl) (fun _ _ _ h => h) (Or.inl ⟨by rfl, ?_⟩) hS ?_
      rotate_left
      · (intro w' hSw; (try dsimp only at hSw); go_simp; try with_reducible rfl)
      try simp only [Act.put, List.setIfInBounds_toArray, List.set_cons_zero, List.set_cons_succ]
      refine wpAnyH_take (i := 3) (oi := { dst := some 20, op := Op.load 58 (Operand.tmp 5), type := 58, pos := "law.go:82", after := #[], guard := none }) (v := ?_) rfl (by kernel_rfl) (by kernel_rfl) (by kernel_rfl) (fun _ _ _ h => h) (Or.inl ⟨by rfl, ?_⟩) hS ?_
      rotate_left
      · (intro w' hSw; (try dsimp only at hSw); go_simp; try with_reducible rfl)
      try simp only [Act.put, List.setIfInBounds_toArray, List.set_cons_zero, List.set_cons_succ]
      refine wpAnyH_take (i := 4) (oi := { dst := some 21, op := Op.build 58 #[], type := 58, pos := "law.go:82", after := #[], guard := none }) (v := ?_) rfl (by kernel_rfl) (by kernel_rfl) (by kernel_rfl) (fun _ _ _ h => h) (Or.inl ⟨by rfl, ?_⟩) hS ?_
      rotate_left
      · (intro w' hSw; (try dsimp only at hSw); go_simp; try with_reducible rfl)
      try simp only [Act.put, List.setIfInBounds_toArray, List.set_cons_zero, List.set_cons_succ]
      refine wpAnyH_ready (rs := [2]) (by kernel_rfl) (by simp) ?_
      refine AllReadyH.cons (o := { dst := some 19, op := Op.call { callee := Callee.value (Operand.func 46), args := #[Operand.tmp 17, Operand.tmp 18], argTypes := #[58, 58] }, type := 3, pos := "law.go:82", after := #[{ on := 0, ground := Ground.data }, { on := 1, ground := Ground.data }], guard := none }) rfl (fun K hK => ?_) AllReadyH.nil
      go_simp
      (go_at_call 46; (with_reducible refine (FCmp_at (Hx.below (hS.2.2.2.2.2.2.2.2.2.2.2.2) (Nat.le_refl _)) (Hy.below (hS.2.2.2.2.2.2.2.2.2.2.2.2) (Nat.le_refl _)) zx zy HC.out).mono ?_); rintro e wn ⟨rfl, hb1⟩)
      go_wp2_with fail
      refine hK.out _ _ (keepZ12 hS hb1) (fun hS => ?_)
      clear hK K hb1
      try simp only [Act.put, List.setIfInBounds_toArray, List.set_cons_zero, List.set_cons_succ]
      refine wpAnyH_ready (rs := [5]) (by kernel_rfl) (by simp) ?_
      refine AllReadyH.cons (o := { dst := some 22, op := Op.call { callee := Callee.value (Operand.func 46), args := #[Operand.tmp 20, Operand.tmp 21], argTypes := #[58, 58] }, type := 3, pos := "law.go:82", after := #[{ on := 3, ground := Ground.data }, { on := 4, ground := Ground.data }, { on := 2, ground := Ground.chain }], guard := none }) rfl (fun K hK => ?_) AllReadyH.nil
      go_simp
      (go_at_call 46; (with_reducible refine (FCmp_at (Hz.below (hS.2.2.2.2.2.2.2.2.2.2.2.2) (Nat.le_refl _)) (FracV.zero _) zz z0 HD.out).mono ?_); rintro e wn ⟨rfl, hb1⟩)
      go_wp2_with fail
      refine hK.out _ _ (keepZ12 hS hb1) (fun hS => ?_)
      clear hK K hb1
      try simp only [Act.put, List.setIfInBounds_toArray, List.set_cons_zero, List.set_cons_succ]
      refine wpAnyH_take (i := 6) (oi := { dst := some 7, op := Op.assign (Operand.tmp 19), type := 3, pos := "law.go:82", after := #[{ on := 2, ground := Ground.data }, { on := 5, ground := Ground.chain }, { on := 0, ground := Ground.phase }, { on := 1, ground := Ground.phase }, { on := 2, ground := Ground.phase }, { on := 3, ground := Ground.textOnly Departure.lateStores }, { on := 4, ground := Ground.textOnly Departure.lateStores }, { on := 5, ground := Ground.textOnly Departure.lateStoresUnsure }], guard := none }) (v := ?_) rfl (by kernel_rfl) (by kernel_rfl) (by kernel_rfl) (fun _ _ _ h => h) (Or.inl ⟨by rfl, ?_⟩) hS ?_
      rotate_left
      · (intro w' hSw; (try dsimp only at hSw); go_simp; try with_reducible rfl)
      try simp only [Act.put, List.setIfInBounds_toArray, List.set_cons_zero, List.set_cons_succ]
      refine wpAnyH_take (i := 7) (oi := { dst := some 8, op := Op.assign (Operand.tmp 22), type := 3, pos := "law.go:82", after := #[{ on := 5, ground := Ground.data }, { on := 6, ground := Ground.chain }, { on := 0, ground := Ground.phase }, { on := 1, ground := Ground.phase }, { on := 2, ground := Ground.phase }, { on := 3, ground := Ground.phase }, { on := 4, ground := Ground.phase }, { on := 5, ground := Ground.phase }, { on := 6, ground := Ground.phase }], guard := none }) (v := ?_) rfl (by kernel_rfl) (by kernel_rfl) (by kernel_rfl) (fun _ _ _ h => h) (Or.inl ⟨by rfl, ?_⟩) hS ?_
      rotate_left
      · (intro w' hSw; (try dsimp only at hSw); go_simp; try with_reducible rfl)
      try simp only [Act.put, List.setIfInBounds_toArray, List.set_cons_zero, List.set_cons_succ]
      refine wpAnyH_done (by kernel_rfl) ?_ _
      go_wp2_with fail
      go_meet
      exact ⟨rfl, rfl, hS⟩
    case rest =>
      clear cx0 cx1 cx2 cx3 cy0 cy1 cy2 cy3 cz0 cz1 cz2 cz3 sb sb1
      obtain ⟨rfl, rfl, cx0, cx1, cx2, cx3, cy0, cy1, cy2, cy3, cz0, cz1, cz2, cz3, sb⟩ := hcut
      have sb1 := sb.drew
      go_upto_region 6 with (fail)
      go_cut [43] from 23 to 42 (fun v43 wc => v43 = .bool false ∧ (wc.cell? ⟨w.heap.size, 0, none⟩ = some (.bool xn) ∧ wc.cell? ⟨w.heap.size, 1, none⟩ = some (.slice xa xl xk) ∧ wc.cell? ⟨w.heap.size, 2, none⟩ = some (.bool xm) ∧ wc.cell? ⟨w.heap.size, 3, none⟩ = some (.slice xb xi xj) ∧ wc.cell? ⟨w.heap.size + 1, 0, none⟩ = some (.bool yn) ∧ wc.cell? ⟨w.heap.size + 1, 1, none⟩ = some (.slice ya yl yk) ∧ wc.cell? ⟨w.heap.size + 1, 2, none⟩ = some (.bool ym) ∧ wc.cell? ⟨w.heap.size + 1, 3, none⟩ = some (.slice yb yi yj) ∧ wc.cell? ⟨w.heap.size + 1 + 1, 0, none⟩ = some (.bool zn) ∧ wc.cell? ⟨w.heap.size + 1 + 1, 1, none⟩ = some (.slice za zl zk) ∧ wc.cell? ⟨w.heap.size + 1 + 1, 2, none⟩ = some (.bool zm) ∧ wc.cell? ⟨w.heap.size + 1 + 1, 3, none⟩ = some (.slice zb zi zj) ∧ Below w.heap.size w wc))
      case first =>
        refine wp_region_held_drew (S := fun w' => w'.cell? ⟨w.heap.size, 0, none⟩ = some (.bool xn) ∧ w'.cell? ⟨w.heap.size, 1, none⟩ = some (.slice xa xl xk) ∧ w'.cell? ⟨w.heap.size, 2, none⟩ = some (.bool xm) ∧ w'.cell? ⟨w.heap.size, 3, none⟩ = some (.slice xb xi xj) ∧ w'.cell? ⟨w.heap.size + 1, 0, none⟩ = some (.bool yn) ∧ w'.cell? ⟨w.heap.size + 1, 1, none⟩ = some (.slice ya yl yk) ∧ w'.cell? ⟨w.heap.size + 1, 2, none⟩ = some (.bool ym) ∧ w'.cell? ⟨w.heap.size + 1, 3, none⟩ = some (.slice yb yi yj) ∧ w'.cell? ⟨w.heap.size + 1 + 1, 0, none⟩ = some (.bool zn) ∧ w'.cell? ⟨w.heap.size + 1 + 1, 1, none⟩ = some (.slice za zl zk) ∧ w'.cell? ⟨w.heap.size + 1 + 1, 2, none⟩ = some (.bool zm) ∧ w'.cell? ⟨w.heap.size + 1 + 1, 3, none⟩ = some (.slice zb zi zj) ∧ Below w.heap.size w w') (by kernel_rfl) (⟨cx0, cx1, cx2, cx3, cy0, cy1, cy2, cy3, cz0, cz1, cz2, cz3, sb1⟩) (fun hS => ?_)
        refine wpAnyH_take (i := 0) (oi := { dst := some 23, op := Op.load 58 (Operand.tmp 3), type := 58, pos := "law.go:83", after := #[], guard := none }) (v := ?_) rfl (by kernel_rfl) (by kernel_rfl) (by kernel_rfl) (fun _ _ _ h => h) (Or.inl ⟨by rfl, ?_⟩) hS ?_
        rotate_left
        · (intro w' hSw; (try dsimp only at hSw); go_simp; try with_reducible rfl)
        try simp only [Act.put, List.setIfInBounds_toArray, List.set_cons_zero, List.set_cons_succ]
        refine wpAnyH_take (i := 1) (oi := { dst := some 24, op := Op.load 58 (Operand.tmp 5), type := 58, pos := "law.go:83", after := #[], guard := none }) (v := ?_) rfl (by kernel_rfl) (by kernel_rfl) (by kernel_rfl) (fun _ _ _ h => h) (Or.inl ⟨by rfl, ?_⟩) hS ?_
        rotate_left
        · (intro w' hSw; (try dsimp only at hSw); go_simp; try with_reducible rfl)
        try simp only [Act.put, List.setIfInBounds_toArray, List.set_cons_zero, List.set_cons_succ]
        refine wpAnyH_take (i := 3) (oi := { dst := some 26, op := Op.load 58 (Operand.tmp 4), type := 58, pos := "law.go:83", after := #[], guard := none }) (v := ?_) rfl (by kernel_rfl) (by kernel_rfl) (by kernel_rfl) (fun _ _ _ h => h) (Or.inl ⟨by rfl, ?_⟩) hS ?_
        rotate_left
        · (intro w' hSw; (try dsimp only at hSw); go_simp; try with_reducible rfl)
        try simp only [Act.put, List.setIfInBounds_toArray, List.set_cons_zero, List.set_cons_succ]
        refine wpAnyH_take (i := 4) (oi := { dst := some 27, op := Op.load 58 (Operand.tmp 5), type := 58, pos := "law.go:83", after := #[], guard := none }) (v := ?_) rfl (by kernel_rfl) (by kernel_rfl) (by kernel_rfl) (fun _ _ _ h => h) (Or.inl ⟨by rfl, ?_⟩) hS ?_
        rotate_left
        · (intro w' hSw; (try dsimp only at hSw); go_simp; try with_reducible rfl)
        try simp only [Act.put, List.setIfInBounds_toArray, List.set_cons_zero, List.set_cons_succ]
        refine wpAnyH_take (i := 7) (oi := { dst := some 30, op := Op.move (Operand.tmp 7), type := 3, pos := "law.go:83", after := #[], guard := none }) (v := ?_) rfl (by kernel_rfl) (by kernel_rfl) (by kernel_rfl) (fun _ _ _ h => h) (Or.inl ⟨by rfl, ?_⟩) hS ?_
        rotate_left
        · (intro w' hSw; (try dsimp only at hSw); go_simp; try with_reducible rfl)
        try simp only [Act.put, List.setIfInBounds_toArray, List.set_cons_zero, List.set_cons_succ]
        refine wpAnyH_take (i := 8) (oi := { dst := some 31, op := Op.move (Operand.tmp 8), type := 3, pos := "law.go:83", after := #[], guard := none }) (v := ?_) rfl (by kernel_rfl) (by kernel_rfl) (by kernel_rfl) (fun _ _ _ h => h) (Or.inl ⟨by rfl, ?_⟩) hS ?_
        rotate_left
        · (intro w' hSw; (try dsimp only at hSw); go_simp; try with_reducible rfl)
        try simp only [Act.put, List.setIfInBounds_toArray, List.set_cons_zero, List.set_cons_succ]
        refine wpAnyH_take (i := 9) (oi := { dst := some 32, op := Op.binOp BinOp.mul 3 (Operand.tmp 30) (Operand.tmp 31) 3, type := 3, pos := "law.go:83", after := #[{ on := 7, ground := Ground.data }, { on := 8, ground := Ground.data }], guard := none }) (v := ?_) rfl (by kernel_rfl) (by kernel_rfl) (by kernel_rfl) (fun _ _ _ h => h) (Or.inl ⟨by rfl, ?_⟩) hS ?_
        rotate_left
        · (intro w' hSw; (try dsimp only at hSw); go_simp; try with_reducible rfl)
        try simp only [Act.put, List.setIfInBounds_toArray, List.set_cons_zero, List.set_cons_succ]
        refine wpAnyH_ready (rs := [2]) (by kernel_rfl) (by simp) ?_
        refine AllReadyH.cons (o := { dst := some 25, op := Op.call { callee := Callee.value (Operand.func 47), args := #[Operand.tmp 23, Operand.tmp 24], argTypes := #[58, 58] }, type := 58, pos := "law.go:83", after := #[{ on := 0, ground := Ground.data }, { on := 1, ground := Ground.data }], guard := none }) rfl (fun K hK => ?_) AllReadyH.nil
        go_simp
        (go_at_call 47; (with_reducible refine (FMul_any _ (Hx.below (hS.2.2.2.2.2.2.2.2.2.2.2.2) (Nat.le_refl _)) (Hz.below (hS.2.2.2.2.2.2.2.2.2.2.2.2) (Nat.le_refl _)) zx zz).mono ?_); rintro e wn ⟨rA, rfl, hA, hb1⟩)
        go_wp2_with fail
        refine hK.out _ _ (keepZ12 hS hb1) (fun hS => ?_)
        clear hK K hb1
        try simp only [Act.put, List.setIfInBounds_toArray, List.set_cons_zero, List.set_cons_succ]
        refine wpAnyH_ready (rs := [5]) (by kernel_rfl) (by simp) ?_
        refine AllReadyH.cons (o := { dst := some 28, op := Op.call { callee := Callee.value (Operand.func 47), args := #[Operand.tmp 26, Operand.tmp 27], argTypes := #[58, 58] }, type := 58, pos := "law.go:83", after := #[{ on := 3, ground := Ground.data }, { on := 4, ground := Ground.data }, { on := 2, ground := Ground.chain }], guard := none }) rfl (fun K hK => ?_) AllReadyH.nil
        go_simp
        (go_at_call 47; (with_reducible refine (FMul_any _ (Hy.below (hS.2.2.2.2.2.2.2.2.2.2.2.2) (Nat.le_refl _)) (Hz.below (hS.2.2.2.2.2.2.2.2.2.2.2.2) (Nat.le_refl _)) zy zz).mono ?_); rintro e wn ⟨rB, rfl, hB, hb1⟩; replace hA := hA.below hb1 (Nat.le_refl _))
        go_wp2_with fail
        refine hK.out _ _ (keepZ12 hS hb1) (fun hS => ?_)
        clear hK K hb1
        try simp only [Act.put, List.setIfInBounds_toArray, List.set_cons_zero, List.set_cons_succ]
        refine wpAnyH_ready (rs := [6]) (by kernel_rfl) (by simp) ?_
        refine AllReadyH.cons (o := { dst := some 29, op := Op.call { callee := Callee.value (Operand.func 46), args := #[Operand.tmp 25, Operand.tmp 28], argTypes := #[58, 58] }, type := 3, pos := "law.go:83", after := #[{ on := 2, ground := Ground.data }, { on := 5, ground := Ground.data }, { on := 5, ground := Ground.chain }], guard := none }) rfl (fun K hK => ?_) AllReadyH.nil
        go_simp
        (go_at_call 46; (with_reducible refine (FCmp_at hA hB zA zB HM.out).mono ?_); rintro e wn ⟨rfl, hb1⟩)
        go_wp2_with fail
        refine hK.out _ _ (keepZ12 hS hb1) (fun hS => ?_)
        clear hK K hb1
        try simp only [Act.put, List.setIfInBounds_toArray, List.set_cons_zero, List.set_cons_succ]
        refine wpAnyH_take (i := 10) (oi := { dst := some 33, op := Op.binOp BinOp.neq 3 (Operand.tmp 29) (Operand.tmp 32) 3, type := 4, pos := "law.go:83", after := #[{ on := 6, ground := Ground.data }, { on := 9, ground := Ground.data }], guard := none }) (v := ?_) rfl (by kernel_rfl) (by kernel_rfl) (by kernel_rfl) (fun _ _ _ h => h) (Or.inl ⟨by rfl, ?_⟩) hS ?_
        rotate_left
        · (intro w' hSw; (try dsimp only at hSw); go_simp; try with_reducible rfl)
        try simp only [Act.put, List.setIfInBounds_toArray, List.set_cons_zero, List.set_cons_succ]
        refine wpAnyH_take (i := 11) (oi := { dst := some 34, op := Op.move (Operand.tmp 33), type := 4, pos := "law.go:83", after := #[{ on := 10, ground := Ground.data }, { on := 6, ground := Ground.chain }], guard := none }) (v := ?_) rfl (by kernel_rfl) (by kernel_rfl) (by kernel_rfl) (fun _ _ _ h => h) (Or.inl ⟨by rfl, ?_⟩) hS ?_
        rotate_left
        · (intro w' hSw; (try dsimp only at hSw); go_simp; try with_reducible rfl)
        try simp only [Act.put, List.setIfInBounds_toArray, List.set_cons_zero, List.set_cons_succ]
        refine wpAnyH_take (i := 12) (oi := { dst := some 35, op := Op.load 58 (Operand.tmp 3), type := 58, pos := "law.go:83", after := #[{ on := 11, ground := Ground.guard }], guard := some (11, false) }) (v := ?_) rfl (by kernel_rfl) (by kernel_rfl) (by kernel_rfl) (fun _ _ _ h => h) (Or.inl ⟨by rfl, ?_⟩) hS ?_
        rotate_left
        · (intro w' hSw; (try dsimp only at hSw); go_simp; try with_reducible rfl)
        try simp only [Act.put, List.setIfInBounds_toArray, List.set_cons_zero, List.set_cons_succ]
        refine wpAnyH_take (i := 14) (oi := { dst := some 37, op := Op.load 58 (Operand.tmp 4), type := 58, pos := "law.go:83", after := #[{ on := 11, ground := Ground.guard }], guard := some (11, false) }) (v := ?_) rfl (by kernel_rfl) (by kernel_rfl) (by kernel_rfl) (fun _ _ _ h => h) (Or.inl ⟨by rfl, ?_⟩) hS ?_
        rotate_left
        · (intro w' hSw; (try dsimp only at hSw); go_simp; try with_reducible rfl)
        try simp only [Act.put, List.setIfInBounds_toArray, List.set_cons_zero, List.set_cons_succ]
        refine wpAnyH_take (i := 17) (oi := { dst := some 40, op := Op.move (Operand.tmp 7), type := 3, pos := "law.go:83", after := #[{ on := 11, ground := Ground.guard }], guard := some (11, false) }) (v := ?_) rfl (by kernel_rfl) (by kernel_rfl) (by kernel_rfl) (fun _ _ _ h => h) (Or.inl ⟨by rfl, ?_⟩) hS ?_
        rotate_left
        · (intro w' hSw; (try dsimp only at hSw); go_simp; try with_reducible rfl)
        try simp only [Act.put, List.setIfInBounds_toArray, List.set_cons_zero, List.set_cons_succ]
        refine wpAnyH_take (i := 18) (oi := { dst := some 41, op := Op.unOp UnOp.neg 3 (Operand.tmp 40), type := 3, pos := "law.go:83", after := #[{ on := 17, ground := Ground.data }, { on := 11, ground := Ground.guard }], guard := some (11, false) }) (v := ?_) rfl (by kernel_rfl) (by kernel_rfl) (by kernel_rfl) (fun _ _ _ h => h) (Or.inl ⟨by rfl, ?_⟩) hS ?_
        rotate_left
        · (intro w' hSw; (try dsimp only at hSw); go_simp; try with_reducible rfl)
        try simp only [Act.put, List.setIfInBounds_toArray, List.set_cons_zero, List.set_cons_succ]
        refine wpAnyH_ready (rs := [13]) (by kernel_rfl) (by simp) ?_
        refine AllReadyH.cons (o := { dst := some 36, op := Op.call { callee := Callee.value (Operand.func 48), args := #[Operand.tmp 35], argTypes := #[58] }, type := 58, pos := "law.go:83", after := #[{ on := 12, ground := Ground.data }, { on := 11, ground := Ground.chain }, { on := 11, ground := Ground.guard }], guard := some (11, false) }) rfl (fun K hK => ?_) AllReadyH.nil
        go_simp
        (go_at_call 48; (with_reducible refine (FNeg_any _ (Hx.below (hS.2.2.2.2.2.2.2.2.2.2.2.2) (Nat.le_refl _)) zx).mono ?_); rintro e wn ⟨rA, rfl, hA, hb1⟩)
        go_wp2_with fail
        refine hK.out _ _ (keepZ12 hS hb1) (fun hS => ?_)
        clear hK K hb1
        try simp only [Act.put, List.setIfInBounds_toArray, List.set_cons_zero, List.set_cons_succ]
        refine wpAnyH_ready (rs := [15]) (by kernel_rfl) (by simp) ?_
        refine AllReadyH.cons (o := { dst := some 38, op := Op.call { callee := Callee.value (Operand.func 48), args := #[Operand.tmp 37], argTypes := #[58] }, type := 58, pos := "law.go:83", after := #[{ on := 14, ground := Ground.data }, { on := 13, ground := Ground.chain }, { on := 11, ground := Ground.guard }], guard := some (11, false) }) rfl (fun K hK => ?_) AllReadyH.nil
        go_simp
        (go_at_call 48; (with_reducible refine (FNeg_any _ (Hy.below (hS.2.2.2.2.2.2.2.2.2.2.2.2) (Nat.le_refl _)) zy).mono ?_); rintro e wn ⟨rB, rfl, hB, hb1⟩; replace hA := hA.below hb1 (Nat.le_refl _))
        go_wp2_with fail
        refine hK.out _ _ (keepZ12 hS hb1) (fun hS => ?_)
        clear hK K hb1
        try simp only [Act.put, List.setIfInBounds_toArray, List.set_cons_zero, List.set_cons_succ]
        refine wpAnyH_ready (rs := [16]) (by kernel_rfl) (by simp) ?_
        refine AllReadyH.cons (o := { dst := some 39, op := Op.call { callee := Callee.value (Operand.func 46), args := #[Operand.tmp 36, Operand.tmp 38], argTypes := #[58, 58] }, type := 3, pos := "law.go:83", after := #[{ on := 13, ground := Ground.data }, { on := 15, ground := Ground.data }, { on := 15, ground := Ground.chain }, { on := 11, ground := Ground.guard }], guard := some (11, false) }) rfl (fun K hK => ?_) AllReadyH.nil
        go_simp
        (go_at_call 46; (with_reducible refine (FCmp_at hA hB zM zN HN.out).mono ?_); rintro e wn ⟨rfl, hb1⟩)
        go_wp2_with fail
        refine hK.out _ _ (keepZ12 hS hb1) (fun hS => ?_)
        clear hK K hb1
        try simp only [Act.put, List.setIfInBounds_toArray, List.set_cons_zero, List.set_cons_succ]
        refine wpAnyH_take (i := 19) (oi := { dst := some 42, op := Op.binOp BinOp.neq 3 (Operand.tmp 39) (Operand.tmp 41) 3, type := 4, pos := "law.go:83", after := #[{ on := 16, ground := Ground.data }, { on := 18, ground := Ground.data }, { on := 11, ground := Ground.guard }], guard := some (11, false) }) (v := ?_) rfl (by kernel_rfl) (by kernel_rfl) (by kernel_rfl) (fun _ _ _ h => h) (Or.inl ⟨by rfl, ?_⟩) hS ?_
        rotate_left
        · (intro w' hSw; (try dsimp only at hSw); go_simp; try with_reducible rfl)
        try simp only [Act.put, List.setIfInBounds_toArray, List.set_cons_zero, List.set_cons_succ]
        refine wpAnyH_take (i := 20) (oi := { dst := some 43, op := Op.pick (Operand.tmp 34) (Operand.const (Value.bool true)) (Operand.tmp 42), type := 4, pos := "law.go:83", after := #[{ on := 11, ground := Ground.data }, { on := 19, ground := Ground.data }], guard := none }) (v := ?_) rfl (by kernel_rfl) (by kernel_rfl) (by kernel_rfl) (fun _ _ _ h => h) (Or.inl ⟨by rfl, ?_⟩) hS ?_
        rotate_left
        · (intro w' hSw; (try dsimp only at hSw); go_simp; try with_reducible rfl)
        try simp only [Act.put, List.setIfInBounds_toArray, List.set_cons_zero, List.set_cons_succ]
        refine wpAnyH_done (by kernel_rfl) ?_ _
        go_wp2_with fail
        go_meet
        exact ⟨rfl, hS⟩
      case rest =>
        clear cx0 cx1 cx2 cx3 cy0 cy1 cy2 cy3 cz0 cz1 cz2 cz3 sb sb1 HM HN hw1
        obtain ⟨rfl, cx0, cx1, cx2, cx3, cy0, cy1, cy2, cy3, cz0, cz1, cz2, cz3, sb⟩ := hcut
        rename_i wc
        go_upto_region 8 with (fail)
        go_wp2_with fail
        refine (Of_any 1 _ (by decide) (by decide)).mono ?_
        rintro e w8 ⟨u, rfl, hu, hb8⟩
        obtain ⟨cx0, cx1, cx2, cx3, cy0, cy1, cy2, cy3, cz0, cz1, cz2, cz3, sb⟩ := keepZ12 ⟨cx0, cx1, cx2, cx3, cy0, cy1, cy2, cy3, cz0, cz1, cz2, cz3, sb⟩ hb8
        clear hb8
        have sone : Sm 1 := sm_small (by decide)
        go_wp2_with fail
        refine (FOf2_any _ hu sone).mono ?_
        rintro e w10 ⟨v, rfl, hv, hb10⟩
        obtain ⟨vn, va, vl, vk, vm, vb, vi, vj, rfl, -, -⟩ := FracV.parts hv
        clear hu
        obtain ⟨cx0, cx1, cx2, cx3, cy0, cy1, cy2, cy3, cz0, cz1, cz2, cz3, sb⟩ := keepZ12 ⟨cx0, cx1, cx2, cx3, cy0, cy1, cy2, cy3, cz0, cz1, cz2, cz3, sb⟩ hb10
        clear hb10
        obtain ⟨w11, hw11⟩ : ∃ w11, w10.alloc (.cells #[.bool vn, .slice va vl vk, .bool vm, .slice vb vi vj] 58) = w11 := ⟨_, rfl⟩
        have hBv : Blk w11 w10.heap.size 58 #[.bool vn, .slice va vl vk, .bool vm, .slice vb vi vj] := by rw [← hw11]; exact Blk.new _ _ _
        have hbw11 : Below w10.heap.size w10 w11 := by rw [← hw11]; exact (Below.refl _ _).alloc (Nat.le_refl _) _
        replace hv := hv.below hbw11 (Nat.le_refl _)
        obtain ⟨cx0, cx1, cx2, cx3, cy0, cy1, cy2, cy3, cz0, cz1, cz2, cz3, sb⟩ := keepZ12 ⟨cx0, cx1, cx2, cx3, cy0, cy1, cy2, cy3, cz0, cz1, cz2, cz3, sb⟩ hbw11
        clear hbw11
        have HW := hide hw11
        clear hw11
        go_upto_region 9 with (fail)
        rw [HW.out]
        clear HW
        generalize w10.heap.size = g11 at hBv ⊢
        obtain ⟨Cx, hCx⟩ : ∃ D, ordQ p 0 = D := ⟨_, rfl⟩
        obtain ⟨Cy, hCy⟩ : ∃ D, ordQ q 0 = D := ⟨_, rfl⟩
        have HCX := hide hCx
        have HCY := hide hCy
        clear hCx hCy
        go_wp2_with fail
        refine (FCmp_at (Hx.below sb (Nat.le_refl _)) (FracV.zero _) zx z0 HCX.out).mono ?_
        rintro e w12 ⟨rfl, hb12⟩
        obtain ⟨cx0, cx1, cx2, cx3, cy0, cy1, cy2, cy3, cz0, cz1, cz2, cz3, sb⟩ := keepZ12 ⟨cx0, cx1, cx2, cx3, cy0, cy1, cy2, cy3, cz0, cz1, cz2, cz3, sb⟩ hb12
        replace hBv := hBv.below hb12 hBv.lt
        replace hv := hv.below hb12 (Nat.le_refl _)
        clear hb12
        by_cases hpx : Cx ≤ 0
        · have e1 := decide_eq_true hpx
          clear hpx
          go_wp2_with fail
          go_ret
          exact ⟨rfl, sb⟩
        · have e1 := decide_eq_false hpx
          have HP : Hid (0 < p) := hide (by rcases ordQ_cases p 0 with ⟨h, e⟩ | ⟨h, e⟩ | ⟨h, e⟩; (rw [HCX.out] at e; omega); (rw [HCX.out] at e; omega); exact h)
          clear hpx
          go_wp2_with fail
          refine (FCmp_at (Hy.below sb (Nat.le_refl _)) (FracV.zero _) zy z0 HCY.out).mono ?_
          rintro e w13 ⟨rfl, hb13⟩
          obtain ⟨cx0, cx1, cx2, cx3, cy0, cy1, cy2, cy3, cz0, cz1, cz2, cz3, sb⟩ := keepZ12 ⟨cx0, cx1, cx2, cx3, cy0, cy1, cy2, cy3, cz0, cz1, cz2, cz3, sb⟩ hb13
          replace hBv := hBv.below hb13 hBv.lt
          replace hv := hv.below hb13 (Nat.le_refl _)
          clear hb13
          by_cases hpy : Cy ≤ 0
          · have e2 := decide_eq_true hpy
            clear hpy
            go_wp2_with fail
            go_ret
            exact ⟨rfl, sb⟩
          · have e2 := decide_eq_false hpy
            have HQ : Hid (0 < q) := hide (by rcases ordQ_cases q 0 with ⟨h, e⟩ | ⟨h, e⟩ | ⟨h, e⟩; (rw [HCY.out] at e; omega); (rw [HCY.out] at e; omega); exact h)
            clear hpy
            have H4 : Hid (ordQ (((1 : Int) : Rat) / p) (((1 : Int) : Rat) / q) = N) := hide (by have h := ordQ_inv HP.out HQ.out; rw [HC.out, HNC.out] at h; exact h)
            obtain ⟨zP, zQ⟩ := HDV.out
            have hXw := Hx.below sb (Nat.le_refl _)
            have hYw := Hy.below sb (Nat.le_refl _)
            obtain ⟨v0, v1, v2, v3, -⟩ := hBv.c4
            have hBd := (Below.refl w13.heap.size w13).drew
            clear hBv
            go_upto_region 11 with (fail)
            refine wp_region_held_drew (S := fun w' => w'.cell? ⟨w.heap.size, 0, none⟩ = some (.bool xn) ∧ w'.cell? ⟨w.heap.size, 1, none⟩ = some (.slice xa xl xk) ∧ w'.cell? ⟨w.heap.size, 2, none⟩ = some (.bool xm) ∧ w'.cell? ⟨w.heap.size, 3, none⟩ = some (.slice xb xi xj) ∧ w'.cell? ⟨w.heap.size + 1, 0, none⟩ = some (.bool yn) ∧ w'.cell? ⟨w.heap.size + 1, 1, none⟩ = some (.slice ya yl yk) ∧ w'.cell? ⟨w.heap.size + 1, 2, none⟩ = some (.bool ym) ∧ w'.cell? ⟨w.heap.size + 1, 3, none⟩ = some (.slice yb yi yj) ∧ w'.cell? ⟨w.heap.size + 1 + 1, 0, none⟩ = some (.bool zn) ∧ w'.cell? ⟨w.heap.size + 1 + 1, 1, none⟩ = some (.slice za zl zk) ∧ w'.cell? ⟨w.heap.size + 1 + 1, 2, none⟩ = some (.bool zm) ∧ w'.cell? ⟨w.heap.size + 1 + 1, 3, none⟩ = some (.slice zb zi zj) ∧ w'.cell? ⟨g11, 0, none⟩ = some (.bool vn) ∧ w'.cell? ⟨g11, 1, none⟩ = some (.slice va vl vk) ∧ w'.cell? ⟨g11, 2, none⟩ = some (.bool vm) ∧ w'.cell? ⟨g11, 3, none⟩ = some (.slice vb vi vj) ∧ Below w13.heap.size w13 w') (by kernel_rfl) (⟨cx0, cx1, cx2, cx3, cy0, cy1, cy2, cy3, cz0, cz1, cz2, cz3, v0, v1, v2, v3, hBd⟩) (fun hS => ?_)
            refine wpAnyH_take (i := 0) (oi := { dst := some 56, op := Op.load 58 (Operand.tmp 9), type := 58, pos := "law.go:90", after := #[], guard := none }) (v := ?_) rfl (by kernel_rfl) (by kernel_rfl) (by kernel_rfl) (fun _ _ _ h => h) (Or.inl ⟨by rfl, ?_⟩) hS ?_
            rotate_left
            · (intro w' hSw; (try dsimp only at hSw); go_simp; try with_reducible rfl)
            try simp only [Act.put, List.setIfInBounds_toArray, List.set_cons_zero, List.set_cons_succ]
            refine wpAnyH_take (i := 1) (oi := { dst := some 57, op := Op.load 58 (Operand.tmp 3), type := 58, pos := "law.go:90", after := #[], guard := none }) (v := ?_) rfl (by kernel_rfl) (by kernel_rfl) (by kernel_rfl) (fun _ _ _ h => h) (Or.inl ⟨by rfl, ?_⟩) hS ?_
            rotate_left
            · (intro w' hSw; (try dsimp only at hSw); go_simp; try with_reducible rfl)
            try simp only [Act.put, List.setIfInBounds_toArray, List.set_cons_zero, List.set_cons_succ]
            refine wpAnyH_take (i := 3) (oi := { dst := some 59, op := Op.load 58 (Operand.tmp 9), type := 58, pos := "law.go:90", after := #[], guard := none }) (v := ?_) rfl (by kernel_rfl) (by kernel_rfl) (by kernel_rfl) (fun _ _ _ h => h) (Or.inl ⟨by rfl, ?_⟩) hS ?_
            rotate_left
            · (intro w' hSw; (try dsimp only at hSw); go_simp; try with_reducible rfl)
            try simp only [Act.put, List.setIfInBounds_toArray, List.set_cons_zero, List.set_cons_succ]
            refine wpAnyH_take (i := 4) (oi := { dst := some 60, op := Op.load 58 (Operand.tmp 4), type := 58, pos := "law.go:90", after := #[], guard := none }) (v := ?_) rfl (by kernel_rfl) (by kernel_rfl) (by kernel_rfl) (fun _ _ _ h => h) (Or.inl ⟨by rfl, ?_⟩) hS ?_
            rotate_left
            · (intro w' hSw; (try dsimp only at hSw); go_simp; try with_reducible rfl)
            try simp only [Act.put, List.setIfInBounds_toArray, List.set_cons_zero, List.set_cons_succ]
            refine wpAnyH_take (i := 7) (oi := { dst := some 63, op := Op.move (Operand.tmp 7), type := 3, pos := "law.go:90", after := #[], guard := none }) (v := ?_) rfl (by kernel_rfl) (by kernel_rfl) (by kernel_rfl) (fun _ _ _ h => h) (Or.inl ⟨by rfl, ?_⟩) hS ?_
            rotate_left
            · (intro w' hSw; (try dsimp only at hSw); go_simp; try with_reducible rfl)
            try simp only [Act.put, List.setIfInBounds_toArray, List.set_cons_zero, List.set_cons_succ]
            refine wpAnyH_take (i := 8) (oi := { dst := some 64, op := Op.unOp UnOp.neg 3 (Operand.tmp 63), type := 3, pos := "law.go:90", after := #[{ on := 7, ground := Ground.data }], guard := none }) (v := ?_) rfl (by kernel_rfl) (by kernel_rfl) (by kernel_rfl) (fun _ _ _ h => h) (Or.inl ⟨by rfl, ?_⟩) hS ?_
            rotate_left
            · (intro w' hSw; (try dsimp only at hSw); go_simp; try with_reducible rfl)
            try simp only [Act.put, List.setIfInBounds_toArray, List.set_cons_zero, List.set_cons_succ]
            refine wpAnyH_ready (rs := [2]) (by kernel_rfl) (by simp) ?_
            refine AllReadyH.cons (o := { dst := some 58, op := Op.call { callee := Callee.value (Operand.func 49), args := #[Operand.tmp 56, Operand.tmp 57], argTypes := #[58, 58] }, type := 58, pos := "law.go:90", after := #[{ on := 0, ground := Ground.data }, { on := 1, ground := Ground.data }], guard := none }) rfl (fun K hK => ?_) AllReadyH.nil
            go_simp
            (go_at_call 49; (with_reducible refine (FDiv_any _ (hv.below (hS.2.2.2.2.2.2.2.2.2.2.2.2.2.2.2.2) (Nat.le_refl _)) (hXw.below (hS.2.2.2.2.2.2.2.2.2.2.2.2.2.2.2.2) (Nat.le_refl _)) zO zx).mono ?_); rintro e wn ⟨rA, rfl, hA, hb1⟩)
            go_wp2_with fail
            refine hK.out _ _ (⟨cellK hb1 hS.1, cellK hb1 hS.2.1, cellK hb1 hS.2.2.1, cellK hb1 hS.2.2.2.1, cellK hb1 hS.2.2.2.2.1, cellK hb1 hS.2.2.2.2.2.1, cellK hb1 hS.2.2.2.2.2.2.1, cellK hb1 hS.2.2.2.2.2.2.2.1, cellK hb1 hS.2.2.2.2.2.2.2.2.1, cellK hb1 hS.2.2.2.2.2.2.2.2.2.1, cellK hb1 hS.2.2.2.2.2.2.2.2.2.2.1, cellK hb1 hS.2.2.2.2.2.2.2.2.2.2.2.1, cellK hb1 hS.2.2.2.2.2.2.2.2.2.2.2.2.1, cellK hb1 hS.2.2.2.2.2.2.2.2.2.2.2.2.2.1, cellK hb1 hS.2.2.2.2.2.2.2.2.2.2.2.2.2.2.1, cellK hb1 hS.2.2.2.2.2.2.2.2.2.2.2.2.2.2.2.1, (hS.2.2.2.2.2.2.2.2.2.2.2.2.2.2.2.2).trans (hb1.mono (hS.2.2.2.2.2.2.2.2.2.2.2.2.2.2.2.2).size)⟩) (fun hS => ?_)
            clear hK K hb1
            try simp only [Act.put, List.setIfInBounds_toArray, List.set_cons_zero, List.set_cons_succ]
            refine wpAnyH_ready (rs := [5]) (by kernel_rfl) (by simp) ?_
            refine AllReadyH.cons (o := { dst := some 61, op := Op.call { callee := Callee.value (Operand.func 49), args := #[Operand.tmp 59, Operand.tmp 60], argTypes := #[58, 58] }, type := 58, pos := "law.go:90", after := #[{ on := 3, ground := Ground.data }, { on := 4, ground := Ground.data }, { on := 2, ground := Ground.chain }], guard := none }) rfl (fun K hK => ?_) AllReadyH.nil
            go_simp
            (go_at_call 49; (with_reducible refine (FDiv_any _ (hv.below (hS.2.2.2.2.2.2.2.2.2.2.2.2.2.2.2.2) (Nat.le_refl _)) (hYw.below (hS.2.2.2.2.2.2.2.2.2.2.2.2.2.2.2.2) (Nat.le_refl _)) zO zy).mono ?_); rintro e wn ⟨rB, rfl, hB, hb1⟩; replace hA := hA.below hb1 (Nat.le_refl _))
            go_wp2_with fail
            refine hK.out _ _ (⟨cellK hb1 hS.1, cellK hb1 hS.2.1, cellK hb1 hS.2.2.1, cellK hb1 hS.2.2.2.1, cellK hb1 hS.2.2.2.2.1, cellK hb1 hS.2.2.2.2.2.1, cellK hb1 hS.2.2.2.2.2.2.1, cellK hb1 hS.2.2.2.2.2.2.2.1, cellK hb1 hS.2.2.2.2.2.2.2.2.1, cellK hb1 hS.2.2.2.2.2.2.2.2.2.1, cellK hb1 hS.2.2.2.2.2.2.2.2.2.2.1, cellK hb1 hS.2.2.2.2.2.2.2.2.2.2.2.1, cellK hb1 hS.2.2.2.2.2.2.2.2.2.2.2.2.1, cellK hb1 hS.2.2.2.2.2.2.2.2.2.2.2.2.2.1, cellK hb1 hS.2.2.2.2.2.2.2.2.2.2.2.2.2.2.1, cellK hb1 hS.2.2.2.2.2.2.2.2.2.2.2.2.2.2.2.1, (hS.2.2.2.2.2.2.2.2.2.2.2.2.2.2.2.2).trans (hb1.mono (hS.2.2.2.2.2.2.2.2.2.2.2.2.2.2.2.2).size)⟩) (fun hS => ?_)
            clear hK K hb1
            try simp only [Act.put, List.setIfInBounds_toArray, List.set_cons_zero, List.set_cons_succ]
            refine wpAnyH_ready (rs := [6]) (by kernel_rfl) (by simp) ?_
            refine AllReadyH.cons (o := { dst := some 62, op := Op.call { callee := Callee.value (Operand.func 46), args := #[Operand.tmp 58, Operand.tmp 61], argTypes := #[58, 58] }, type := 3, pos := "law.go:90", after := #[{ on := 2, ground := Ground.data }, { on := 5, ground := Ground.data }, { on := 5, ground := Ground.chain }], guard := none }) rfl (fun K hK => ?_) AllReadyH.nil
            go_simp
            (go_at_call 46; (with_reducible refine (FCmp_at hA hB zP zQ H4.out).mono ?_); rintro e wn ⟨rfl, hb1⟩)
            go_wp2_with fail
            refine hK.out _ _ (⟨cellK hb1 hS.1, cellK hb1 hS.2.1, cellK hb1 hS.2.2.1, cellK hb1 hS.2.2.2.1, cellK hb1 hS.2.2.2.2.1, cellK hb1 hS.2.2.2.2.2.1, cellK hb1 hS.2.2.2.2.2.2.1, cellK hb1 hS.2.2.2.2.2.2.2.1, cellK hb1 hS.2.2.2.2.2.2.2.2.1, cellK hb1 hS.2.2.2.2.2.2.2.2.2.1, cellK hb1 hS.2.2.2.2.2.2.2.2.2.2.1, cellK hb1 hS.2.2.2.2.2.2.2.2.2.2.2.1, cellK hb1 hS.2.2.2.2.2.2.2.2.2.2.2.2.1, cellK hb1 hS.2.2.2.2.2.2.2.2.2.2.2.2.2.1, cellK hb1 hS.2.2.2.2.2.2.2.2.2.2.2.2.2.2.1, cellK hb1 hS.2.2.2.2.2.2.2.2.2.2.2.2.2.2.2.1, (hS.2.2.2.2.2.2.2.2.2.2.2.2.2.2.2.2).trans (hb1.mono (hS.2.2.2.2.2.2.2.2.2.2.2.2.2.2.2.2).size)⟩) (fun hS => ?_)
            clear hK K hb1
            try simp only [Act.put, List.setIfInBounds_toArray, List.set_cons_zero, List.set_cons_succ]
            refine wpAnyH_take (i := 9) (oi := { dst := some 65, op := Op.binOp BinOp.eql 3 (Operand.tmp 62) (Operand.tmp 64) 3, type := 4, pos := "law.go:90", after := #[{ on := 6, ground := Ground.data }, { on := 8, ground := Ground.data }], guard := none }) (v := ?_) rfl (by kernel_rfl) (by kernel_rfl) (by kernel_rfl) (fun _ _ _ h => h) (Or.inl ⟨by rfl, ?_⟩) hS ?_
            rotate_left
            · (intro w' hSw; (try dsimp only at hSw); go_simp; try with_reducible rfl)
            try simp only [Act.put, List.setIfInBounds_toArray, List.set_cons_zero, List.set_cons_succ]
            refine wpAnyH_take (i := 10) (oi := { dst := some 6, op := Op.assign (Operand.tmp 65), type := 4, pos := "law.go:90", after := #[{ on := 9, ground := Ground.data }, { on := 6, ground := Ground.chain }, { on := 0, ground := Ground.phase }, { on := 1, ground := Ground.phase }, { on := 2, ground := Ground.phase }, { on := 3, ground := Ground.phase }, { on := 4, ground := Ground.phase }, { on := 5, ground := Ground.phase }, { on := 6, ground := Ground.phase }, { on := 7, ground := Ground.phase }, { on := 8, ground := Ground.phase }, { on := 9, ground := Ground.phase }], guard := none }) (v := ?_) rfl (by kernel_rfl) (by kernel_rfl) (by kernel_rfl) (fun _ _ _ h => h) (Or.inl ⟨by rfl, ?_⟩) hS ?_
            rotate_left
            · (intro w' hSw; (try dsimp only at hSw); go_simp; try with_reducible rfl)
            try simp only [Act.put, List.setIfInBounds_toArray, List.set_cons_zero, List.set_cons_succ]
            refine wpAnyH_done (by kernel_rfl) ?_ _
            have hfin := sb.trans ((hS.2.2.2.2.2.2.2.2.2.2.2.2.2.2.2.2).mono sb.size)
            clear hS cx0 cx1 cx2 cx3 cy0 cy1 cy2 cy3 cz0 cz1 cz2 cz3 v0 v1 v2 v3
            go_wp2_with fail
            go_ret
            exact ⟨by simp, hfin⟩
end Go.Proofs.YthpibilefdmemaaDoor
