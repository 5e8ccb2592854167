/- The walk of the law FracMakes. -/
import Derived.Test.YthpibilefdmemaaDoorFOdd
namespace Go.Proofs.YthpibilefdmemaaDoor
open Go.RowKit

theorem FRight_at (r s : Raw) (w : World) (hr : RawOk w r) (hs : RawOk w s) (hl : r.ds.length ≤ 1000) (hk : s.ds.length ≤ 1000) {B : Bool} (hB : frightB r s = B) :
    Calls Tryd.prog 38 #[.agg #[.bool r.neg, .slice r.at_ r.ds.length r.cap, .bool s.neg, .slice s.at_ s.ds.length s.cap]] w fun e w' => e = .returned (.bool B) ∧ Below w.heap.size w w' := by
  subst hB; exact FRight_any r s w hr hs hl hk
theorem RRight2_at (r s : Raw) (w : World) (hr : RawOk w r) (hs : RawOk w s) (hl : r.ds.length ≤ 1000) (hk : s.ds.length ≤ 1000) {B : Bool} (hB : frightB r s = B) :
    Calls Tryd.prog 39 #[.agg #[.bool r.neg, .slice r.at_ r.ds.length r.cap, .bool s.neg, .slice s.at_ s.ds.length s.cap]] w fun e w' => e = .returned (.bool B) ∧ Below w.heap.size w w' := by
  subst hB; exact RRight2_any r s w hr hs hl hk
theorem fracV_int {w : World} {n : Bool} {a : Option Addr} {l k : Nat} {x : Int} (h : IntV w (.agg #[.bool n, .slice a l k]) x) : FracV w (.agg #[.bool n, .slice a l k, .bool false, .slice none 0 0]) (x : Rat) := by
  unfold FracV
  rw [Rat.num_intCast, und_int]
  exact FrV.mk h (IntV.zero w)

set_option maxRecDepth 100000 in
set_option maxHeartbeats 6400000 in
theorem fmakes_walk (x y : Raw) (z : RFr) (w : World) (hx : RawOk w x) (hy : RawOk w y) (hz : RFrOk w z) (ht : Tab w) :
    Calls Tryd.prog 7 #[x.val, y.val, z.val] w fun e w' => e = .returned (.bool true) ∧ Below w.heap.size w w' := by
  obtain ⟨W, hW⟩ : ∃ W, ((w.alloc (.cells #[.bool x.neg, .slice x.at_ x.ds.length x.cap] 24)).alloc (.cells #[.bool y.neg, .slice y.at_ y.ds.length y.cap] 24)).alloc (.cells #[.bool z.up.neg, .slice z.up.at_ z.up.ds.length z.up.cap, .bool z.dn.neg, .slice z.dn.at_ z.dn.ds.length z.dn.cap] 58) = W := ⟨_, rfl⟩
  have bx : Blk W w.heap.size 24 #[.bool x.neg, .slice x.at_ x.ds.length x.cap] := by rw [← hW]; exact ((Blk.new w _ _).alloc _).alloc _
  have by_ : Blk W (w.heap.size + 1) 24 #[.bool y.neg, .slice y.at_ y.ds.length y.cap] := by rw [← hW]; exact (Blk.new_at _ _ _ (by simp)).alloc _
  have bz : Blk W (w.heap.size + 1 + 1) 58 #[.bool z.up.neg, .slice z.up.at_ z.up.ds.length z.up.cap, .bool z.dn.neg, .slice z.dn.at_ z.dn.ds.length z.dn.cap] := by rw [← hW]; exact Blk.new_at _ _ _ (by simp)
  have sb : Below w.heap.size w W := by rw [← hW]; exact (((Below.refl w.heap.size w).alloc (Nat.le_refl _) _).alloc (by simp) _).alloc (by simp; omega) _
  unfold Raw.val RFr.val
  go_enter Tryd.func7, Tryd.ntmps7
  go_wp2_with fail
  refine (fspeaks_any W (ht.atBelow sb (Nat.le_refl _))).mono ?_
  rintro e w1 ⟨rfl, hb1⟩
  replace bx := bx.below hb1 bx.lt
  replace by_ := by_.below hb1 by_.lt
  replace bz := bz.below hb1 bz.lt
  replace sb := sb.trans (hb1.mono sb.size)
  clear hb1
  obtain ⟨x0, x1, -⟩ := bx.c2
  obtain ⟨y0, y1, -⟩ := by_.c2
  go_wp2_with fail
  refine (odd2 x y w1 (hx.below sb (Nat.le_refl _)) (hy.below sb (Nat.le_refl _))).mono ?_
  rintro e w2 ⟨o, rfl, hb2, hodd⟩
  replace bx := bx.below hb2 bx.lt
  replace by_ := by_.below hb2 by_.lt
  replace bz := bz.below hb2 bz.lt
  replace sb := sb.trans (hb2.mono sb.size)
  clear hb2
  clear x0 x1 y0 y1
  cases o with
  | true =>
    go_wp2_with fail
    go_ret
    exact ⟨rfl, sb⟩
  | false =>
    obtain ⟨ox, oy⟩ := hodd rfl
    clear hodd hW
    obtain ⟨z0, z1, z2, z3, -⟩ := bz.c4
    by_cases h5 : z.up.ds.length ≤ 8
    · have e1 : decide ((8 : Int) < (z.up.ds.length : Int)) = false := decide_eq_false (by omega)
      have e2 : ¬ (8 : Int) < (z.up.ds.length : Int) := by omega
      have e3 : decide (8 < z.up.ds.length) = false := decide_eq_false (by omega)
      by_cases h6 : z.dn.ds.length ≤ 8
      · have e4 : decide ((8 : Int) < (z.dn.ds.length : Int)) = false := decide_eq_false (by omega)
        have e5 : ¬ (8 : Int) < (z.dn.ds.length : Int) := by omega
        have e6 : decide (8 < z.dn.ds.length) = false := decide_eq_false (by omega)
        go_upto_region 5 with (fail)
        obtain ⟨X, hX, lX⟩ := hx.int ox
        obtain ⟨Y, hY, lY⟩ := hy.int oy
        have hlz1 : z.up.ds.length ≤ 1000 := by omega
        have hlz2 : z.dn.ds.length ≤ 1000 := by omega
        clear e1 e2 e3 e4 e5 e6 h5 h6 ox oy hx hy
        obtain ⟨xn, xa, xk, xds⟩ := x
        obtain ⟨yn, ya, yk, yds⟩ := y
        unfold Raw.val at hX hY
        simp only at hX hY bx by_ ⊢
        generalize xds.length = xl at *
        generalize yds.length = yl at *
        have sX := sm10 lX
        have sY := sm10 lY
        have dX : Dm X := dm_len (by omega)
        have dY : Dm Y := dm_len (by omega)
        have lX9 : len X ≤ 1000000000 := by omega
        have lY9 : len Y ≤ 1000000000 := by omega
        have hQn : Qn 10 (Rat.divInt X Y) := Qn.make lX lY (by decide)
        have zQ := hQn.z (by decide)
        obtain ⟨l1, l2⟩ := hQn.dl (by decide)
        have zX : Qz (X : Rat) := (Qn.int lX (by decide)).z (by decide)
        clear hQn lX lY
        obtain ⟨cx0, cx1, -⟩ := bx.c2
        obtain ⟨cy0, cy1, -⟩ := by_.c2
        have sb1 := sb.drew
        generalize hfr : frightB z.up z.dn = B
        have HFR := hide hfr
        clear hfr bx by_ bz
        refine wp_region_held_drew (S := fun w' => w'.cell? ⟨w.heap.size, 0, none⟩ = some (.bool xn) ∧ w'.cell? ⟨w.heap.size, 1, none⟩ = some (.slice xa xl xk) ∧ w'.cell? ⟨w.heap.size + 1, 0, none⟩ = some (.bool yn) ∧ w'.cell? ⟨w.heap.size + 1, 1, none⟩ = some (.slice ya yl yk) ∧ w'.cell? ⟨w.heap.size + 1 + 1, 0, none⟩ = some (.bool z.up.neg) ∧ w'.cell? ⟨w.heap.size + 1 + 1, 1, none⟩ = some (.slice z.up.at_ z.up.ds.length z.up.cap) ∧ w'.cell? ⟨w.heap.size + 1 + 1, 2, none⟩ = some (.bool z.dn.neg) ∧ w'.cell? ⟨w.heap.size + 1 + 1, 3, none⟩ = some (.slice z.dn.at_ z.dn.ds.length z.dn.cap) ∧ Below w.heap.size w w') (by kernel_rfl) (⟨cx0, cx1, cy0, cy1, z0, z1, z2, z3, sb1⟩) (fun hS => ?_)
        refine wpAnyH_take (i := 0) (oi := { dst := some 27, op := Op.load 58 (Operand.tmp 5), type := 58, pos := "law.go:52", after := #[], guard := none }) (v := ?_) rfl (by kernel_rfl) (by kernel_rfl) (by kernel_rfl) (fun _ _ _ h => h) (Or.inl ⟨by rfl, ?_⟩) hS ?_
        rotate_left
        · (intro w' hSw; (try dsimp only at hSw); go_simp; try with_reducible rfl)
        try simp only [Act.put, List.setIfInBounds_toArray, List.set_cons_zero, List.set_cons_succ]
        refine wpAnyH_take (i := 2) (oi := { dst := some 29, op := Op.load 58 (Operand.tmp 5), type := 58, pos := "law.go:52", after := #[], guard := none }) (v := ?_) rfl (by kernel_rfl) (by kernel_rfl) (by kernel_rfl) (fun _ _ _ h => h) (Or.inl ⟨by rfl, ?_⟩) hS ?_
        rotate_left
        · (intro w' hSw; (try dsimp only at hSw); go_simp; try with_reducible rfl)
        try simp only [Act.put, List.setIfInBounds_toArray, List.set_cons_zero, List.set_cons_succ]
        refine wpAnyH_ready (rs := [1]) (by kernel_rfl) (by simp) ?_
        refine AllReadyH.cons (o := { dst := some 28, op := Op.call { callee := Callee.value (Operand.func 38), args := #[Operand.tmp 27], argTypes := #[58] }, type := 4, pos := "law.go:52", after := #[{ on := 0, ground := Ground.data }], guard := none }) rfl (fun K hK => ?_) AllReadyH.nil
        go_simp
        (go_at_call 38; (with_reducible refine (FRight_at z.up z.dn _ (hz.up.below (hS.2.2.2.2.2.2.2.2) (Nat.le_refl _)) (hz.dn.below (hS.2.2.2.2.2.2.2.2) (Nat.le_refl _)) hlz1 hlz2 HFR.out).mono ?_); rintro e wn ⟨rfl, hb1⟩)
        go_wp2_with fail
        refine hK.out _ _ (keepZ8 hS hb1) (fun hS => ?_)
        clear hK K hb1
        try simp only [Act.put, List.setIfInBounds_toArray, List.set_cons_zero, List.set_cons_succ]
        refine wpAnyH_ready (rs := [3]) (by kernel_rfl) (by simp) ?_
        refine AllReadyH.cons (o := { dst := some 30, op := Op.call { callee := Callee.value (Operand.func 39), args := #[Operand.tmp 29], argTypes := #[58] }, type := 4, pos := "law.go:52", after := #[{ on := 2, ground := Ground.data }, { on := 1, ground := Ground.chain }], guard := none }) rfl (fun K hK => ?_) AllReadyH.nil
        go_simp
        (go_at_call 39; (with_reducible refine (RRight2_at z.up z.dn _ (hz.up.below (hS.2.2.2.2.2.2.2.2) (Nat.le_refl _)) (hz.dn.below (hS.2.2.2.2.2.2.2.2) (Nat.le_refl _)) hlz1 hlz2 HFR.out).mono ?_); rintro e wn ⟨rfl, hb1⟩)
        go_wp2_with fail
        refine hK.out _ _ (keepZ8 hS hb1) (fun hS => ?_)
        clear hK K hb1
        try simp only [Act.put, List.setIfInBounds_toArray, List.set_cons_zero, List.set_cons_succ]
        refine wpAnyH_take (i := 4) (oi := { dst := some 31, op := Op.binOp BinOp.eql 4 (Operand.tmp 28) (Operand.tmp 30) 4, type := 4, pos := "law.go:52", after := #[{ on := 1, ground := Ground.data }, { on := 3, ground := Ground.data }], guard := none }) (v := ?_) rfl (by kernel_rfl) (by kernel_rfl) (by kernel_rfl) (fun _ _ _ h => h) (Or.inl ⟨by rfl, ?_⟩) hS ?_
        rotate_left
        · (intro w' hSw; (try dsimp only at hSw); go_simp; try with_reducible rfl)
        try simp only [Act.put, List.setIfInBounds_toArray, List.set_cons_zero, List.set_cons_succ]
        refine wpAnyH_take (i := 5) (oi := { dst := some 32, op := Op.move (Operand.tmp 31), type := 4, pos := "law.go:52", after := #[{ on := 4, ground := Ground.data }, { on := 3, ground := Ground.chain }], guard := none }) (v := ?_) rfl (by kernel_rfl) (by kernel_rfl) (by kernel_rfl) (fun _ _ _ h => h) (Or.inl ⟨by rfl, ?_⟩) hS ?_
        rotate_left
        · (intro w' hSw; (try dsimp only at hSw); go_simp; try with_reducible rfl)
        try simp only [Act.put, List.setIfInBounds_toArray, List.set_cons_zero, List.set_cons_succ]
        refine wpAnyH_take (i := 6) (oi := { dst := some 33, op := Op.load 24 (Operand.tmp 3), type := 24, pos := "law.go:52", after := #[{ on := 5, ground := Ground.guard }], guard := some (5, true) }) (v := ?_) rfl (by kernel_rfl) (by kernel_rfl) (by kernel_rfl) (fun _ _ _ h => h) (Or.inl ⟨by rfl, ?_⟩) hS ?_
        rotate_left
        · (intro w' hSw; (try dsimp only at hSw); go_simp; try with_reducible rfl)
        try simp only [Act.put, List.setIfInBounds_toArray, List.set_cons_zero, List.set_cons_succ]
        refine wpAnyH_take (i := 7) (oi := { dst := some 34, op := Op.load 24 (Operand.tmp 4), type := 24, pos := "law.go:52", after := #[{ on := 5, ground := Ground.guard }], guard := some (5, true) }) (v := ?_) rfl (by kernel_rfl) (by kernel_rfl) (by kernel_rfl) (fun _ _ _ h => h) (Or.inl ⟨by rfl, ?_⟩) hS ?_
        rotate_left
        · (intro w' hSw; (try dsimp only at hSw); go_simp; try with_reducible rfl)
        try simp only [Act.put, List.setIfInBounds_toArray, List.set_cons_zero, List.set_cons_succ]
        refine wpAnyH_take (i := 9) (oi := { dst := some 36, op := Op.load 24 (Operand.tmp 3), type := 24, pos := "law.go:52", after := #[{ on := 5, ground := Ground.guard }], guard := some (5, true) }) (v := ?_) rfl (by kernel_rfl) (by kernel_rfl) (by kernel_rfl) (fun _ _ _ h => h) (Or.inl ⟨by rfl, ?_⟩) hS ?_
        rotate_left
        · (intro w' hSw; (try dsimp only at hSw); go_simp; try with_reducible rfl)
        try simp only [Act.put, List.setIfInBounds_toArray, List.set_cons_zero, List.set_cons_succ]
        refine wpAnyH_take (i := 11) (oi := { dst := some 38, op := Op.load 24 (Operand.tmp 4), type := 24, pos := "law.go:52", after := #[{ on := 5, ground := Ground.guard }], guard := some (5, true) }) (v := ?_) rfl (by kernel_rfl) (by kernel_rfl) (by kernel_rfl) (fun _ _ _ h => h) (Or.inl ⟨by rfl, ?_⟩) hS ?_
        rotate_left
        · (intro w' hSw; (try dsimp only at hSw); go_simp; try with_reducible rfl)
        try simp only [Act.put, List.setIfInBounds_toArray, List.set_cons_zero, List.set_cons_succ]
        refine wpAnyH_ready (rs := [8]) (by kernel_rfl) (by simp) ?_
        refine AllReadyH.cons (o := { dst := some 35, op := Op.call { callee := Callee.value (Operand.func 41), args := #[Operand.tmp 33, Operand.tmp 34], argTypes := #[24, 24] }, type := 58, pos := "law.go:52", after := #[{ on := 6, ground := Ground.data }, { on := 7, ground := Ground.data }, { on := 5, ground := Ground.chain }, { on := 5, ground := Ground.guard }], guard := some (5, true) }) rfl (fun K hK => ?_) AllReadyH.nil
        go_simp
        (go_at_call 41; (with_reducible refine (FMake_any _ (hX.below (hS.2.2.2.2.2.2.2.2) (Nat.le_refl _)) (hY.below (hS.2.2.2.2.2.2.2.2) (Nat.le_refl _)) sX sY).mono ?_); rintro e wn ⟨rA, rfl, hA, hb1⟩)
        go_wp2_with fail
        refine hK.out _ _ (keepZ8 hS hb1) (fun hS => ?_)
        clear hK K hb1
        try simp only [Act.put, List.setIfInBounds_toArray, List.set_cons_zero, List.set_cons_succ]
        refine wpAnyH_ready (rs := [10]) (by kernel_rfl) (by simp) ?_
        refine AllReadyH.cons (o := { dst := some 37, op := Op.call { callee := Callee.value (Operand.func 22), args := #[Operand.tmp 36], argTypes := #[24] }, type := 30, pos := "law.go:52", after := #[{ on := 9, ground := Ground.data }, { on := 8, ground := Ground.chain }, { on := 5, ground := Ground.guard }], guard := some (5, true) }) rfl (fun K hK => ?_) AllReadyH.nil
        go_simp
        (go_at_call 22; (with_reducible refine (ROf_any _ (hX.below (hS.2.2.2.2.2.2.2.2) (Nat.le_refl _)) lX9).mono ?_); rintro e wn ⟨rB, rfl, hB, hb1⟩; replace hA := hA.below hb1 (Nat.le_refl _))
        go_wp2_with fail
        refine hK.out _ _ (keepZ8 hS hb1) (fun hS => ?_)
        clear hK K hb1
        try simp only [Act.put, List.setIfInBounds_toArray, List.set_cons_zero, List.set_cons_succ]
        refine wpAnyH_ready (rs := [12]) (by kernel_rfl) (by simp) ?_
        refine AllReadyH.cons (o := { dst := some 39, op := Op.call { callee := Callee.value (Operand.func 22), args := #[Operand.tmp 38], argTypes := #[24] }, type := 30, pos := "law.go:52", after := #[{ on := 11, ground := Ground.data }, { on := 10, ground := Ground.chain }, { on := 5, ground := Ground.guard }], guard := some (5, true) }) rfl (fun K hK => ?_) AllReadyH.nil
        go_simp
        (go_at_call 22; (with_reducible refine (ROf_any _ (hY.below (hS.2.2.2.2.2.2.2.2) (Nat.le_refl _)) lY9).mono ?_); rintro e wn ⟨rC, rfl, hC, hb1⟩; replace hA := hA.below hb1 (Nat.le_refl _); replace hB := hB.below hb1 (Nat.le_refl _))
        go_wp2_with fail
        refine hK.out _ _ (keepZ8 hS hb1) (fun hS => ?_)
        clear hK K hb1
        try simp only [Act.put, List.setIfInBounds_toArray, List.set_cons_zero, List.set_cons_succ]
        refine wpAnyH_ready (rs := [13]) (by kernel_rfl) (by simp) ?_
        refine AllReadyH.cons (o := { dst := some 40, op := Op.call { callee := Callee.value (Operand.func 43), args := #[Operand.tmp 37, Operand.tmp 39], argTypes := #[30, 30] }, type := 64, pos := "law.go:52", after := #[{ on := 10, ground := Ground.data }, { on := 12, ground := Ground.data }, { on := 12, ground := Ground.chain }, { on := 5, ground := Ground.guard }], guard := some (5, true) }) rfl (fun K hK => ?_) AllReadyH.nil
        go_simp
        (go_at_call 43; (with_reducible refine (RMake2_any _ hB hC dX dY).mono ?_); rintro e wn ⟨rD, rfl, hD, hb1⟩; replace hA := hA.below hb1 (Nat.le_refl _))
        go_wp2_with fail
        refine hK.out _ _ (keepZ8 hS hb1) (fun hS => ?_)
        clear hK K hb1
        try simp only [Act.put, List.setIfInBounds_toArray, List.set_cons_zero, List.set_cons_succ]
        refine wpAnyH_ready (rs := [14]) (by kernel_rfl) (by simp) ?_
        refine AllReadyH.cons (o := { dst := some 41, op := Op.call { callee := Callee.value (Operand.func 42), args := #[Operand.tmp 40], argTypes := #[64] }, type := 58, pos := "law.go:52", after := #[{ on := 13, ground := Ground.data }, { on := 13, ground := Ground.chain }, { on := 5, ground := Ground.guard }], guard := some (5, true) }) rfl (fun K hK => ?_) AllReadyH.nil
        go_simp
        (go_at_call 42; (with_reducible refine (RForm2_any _ hD l1 l2).mono ?_); rintro e wn ⟨rE, rfl, hE, hb1⟩; replace hA := hA.below hb1 (Nat.le_refl _))
        go_wp2_with fail
        refine hK.out _ _ (keepZ8 hS hb1) (fun hS => ?_)
        clear hK K hb1
        try simp only [Act.put, List.setIfInBounds_toArray, List.set_cons_zero, List.set_cons_succ]
        refine wpAnyH_ready (rs := [15]) (by kernel_rfl) (by simp) ?_
        refine AllReadyH.cons (o := { dst := some 42, op := Op.call { callee := Callee.value (Operand.func 40), args := #[Operand.tmp 35, Operand.tmp 41], argTypes := #[58, 58] }, type := 4, pos := "law.go:52", after := #[{ on := 8, ground := Ground.data }, { on := 14, ground := Ground.data }, { on := 14, ground := Ground.chain }, { on := 5, ground := Ground.guard }], guard := some (5, true) }) rfl (fun K hK => ?_) AllReadyH.nil
        go_simp
        (go_at_call 40; (with_reducible refine (Same3_true hA hE rfl zQ).mono ?_); rintro e wn ⟨rfl, hb1⟩)
        go_wp2_with fail
        refine hK.out _ _ (keepZ8 hS hb1) (fun hS => ?_)
        clear hK K hb1
        try simp only [Act.put, List.setIfInBounds_toArray, List.set_cons_zero, List.set_cons_succ]
        refine wpAnyH_take (i := 16) (oi := { dst := some 43, op := Op.pick (Operand.tmp 32) (Operand.tmp 42) (Operand.const (Value.bool false)), type := 4, pos := "law.go:52", after := #[{ on := 5, ground := Ground.data }, { on := 15, ground := Ground.data }], guard := none }) (v := ?_) rfl (by kernel_rfl) (by kernel_rfl) (by kernel_rfl) (fun _ _ _ h => h) (Or.inl ⟨by rfl, ?_⟩) hS ?_
        rotate_left
        · (intro w' hSw; (try dsimp only at hSw); go_simp; try with_reducible rfl)
        try simp only [Act.put, List.setIfInBounds_toArray, List.set_cons_zero, List.set_cons_succ]
        refine wpAnyH_take (i := 17) (oi := { dst := some 44, op := Op.move (Operand.tmp 43), type := 4, pos := "law.go:52", after := #[{ on := 16, ground := Ground.data }, { on := 15, ground := Ground.chain }], guard := none }) (v := ?_) rfl (by kernel_rfl) (by kernel_rfl) (by kernel_rfl) (fun _ _ _ h => h) (Or.inl ⟨by rfl, ?_⟩) hS ?_
        rotate_left
        · (intro w' hSw; (try dsimp only at hSw); go_simp; try with_reducible rfl)
        try simp only [Act.put, List.setIfInBounds_toArray, List.set_cons_zero, List.set_cons_succ]
        refine wpAnyH_take (i := 18) (oi := { dst := some 45, op := Op.load 24 (Operand.tmp 3), type := 24, pos := "law.go:52", after := #[{ on := 17, ground := Ground.guard }], guard := some (17, true) }) (v := ?_) rfl (by kernel_rfl) (by kernel_rfl) (by kernel_rfl) (fun _ _ _ h => h) (Or.inl ⟨by rfl, ?_⟩) hS ?_
        rotate_left
        · (intro w' hSw; (try dsimp only at hSw); go_simp; try with_reducible rfl)
        try simp only [Act.put, List.setIfInBounds_toArray, List.set_cons_zero, List.set_cons_succ]
        refine wpAnyH_take (i := 20) (oi := { dst := some 47, op := Op.load 24 (Operand.tmp 3), type := 24, pos := "law.go:52", after := #[{ on := 17, ground := Ground.guard }], guard := some (17, true) }) (v := ?_) rfl (by kernel_rfl) (by kernel_rfl) (by kernel_rfl) (fun _ _ _ h => h) (Or.inl ⟨by rfl, ?_⟩) hS ?_
        rotate_left
        · (intro w' hSw; (try dsimp only at hSw); go_simp; try with_reducible rfl)
        try simp only [Act.put, List.setIfInBounds_toArray, List.set_cons_zero, List.set_cons_succ]
        refine wpAnyH_take (i := 21) (oi := { dst := some 48, op := Op.build 58 #[(0, Operand.tmp 47)], type := 58, pos := "law.go:52", after := #[{ on := 20, ground := Ground.data }, { on := 17, ground := Ground.guard }], guard := some (17, true) }) (v := ?_) rfl (by kernel_rfl) (by kernel_rfl) (by kernel_rfl) (fun _ _ _ h => h) (Or.inl ⟨by rfl, ?_⟩) hS ?_
        rotate_left
        · (intro w' hSw; (try dsimp only at hSw); go_simp; try with_reducible rfl)
        try simp only [Act.put, List.setIfInBounds_toArray, List.set_cons_zero, List.set_cons_succ]
        refine wpAnyH_ready (rs := [19]) (by kernel_rfl) (by simp) ?_
        refine AllReadyH.cons (o := { dst := some 46, op := Op.call { callee := Callee.value (Operand.func 44), args := #[Operand.tmp 45], argTypes := #[24] }, type := 58, pos := "law.go:52", after := #[{ on := 18, ground := Ground.data }, { on := 17, ground := Ground.chain }, { on := 17, ground := Ground.guard }], guard := some (17, true) }) rfl (fun K hK => ?_) AllReadyH.nil
        go_simp
        (go_at_call 44; (with_reducible refine (FOf2_any _ (hX.below (hS.2.2.2.2.2.2.2.2) (Nat.le_refl _)) sX).mono ?_); rintro e wn ⟨rA, rfl, hA, hb1⟩)
        go_wp2_with fail
        refine hK.out _ _ (keepZ8 hS hb1) (fun hS => ?_)
        clear hK K hb1
        try simp only [Act.put, List.setIfInBounds_toArray, List.set_cons_zero, List.set_cons_succ]
        refine wpAnyH_ready (rs := [22]) (by kernel_rfl) (by simp) ?_
        refine AllReadyH.cons (o := { dst := some 49, op := Op.call { callee := Callee.value (Operand.func 40), args := #[Operand.tmp 46, Operand.tmp 48], argTypes := #[58, 58] }, type := 4, pos := "law.go:52", after := #[{ on := 19, ground := Ground.data }, { on := 21, ground := Ground.data }, { on := 19, ground := Ground.chain }, { on := 17, ground := Ground.guard }], guard := some (17, true) }) rfl (fun K hK => ?_) AllReadyH.nil
        go_simp
        (go_at_call 40; (with_reducible refine (Same3_true hA (fracV_int ((hX.below (hS.2.2.2.2.2.2.2.2) (Nat.le_refl _)))) rfl zX).mono ?_); rintro e wn ⟨rfl, hb1⟩)
        go_wp2_with fail
        refine hK.out _ _ (keepZ8 hS hb1) (fun hS => ?_)
        clear hK K hb1
        try simp only [Act.put, List.setIfInBounds_toArray, List.set_cons_zero, List.set_cons_succ]
        refine wpAnyH_take (i := 23) (oi := { dst := some 50, op := Op.pick (Operand.tmp 44) (Operand.tmp 49) (Operand.const (Value.bool false)), type := 4, pos := "law.go:52", after := #[{ on := 17, ground := Ground.data }, { on := 22, ground := Ground.data }], guard := none }) (v := ?_) rfl (by kernel_rfl) (by kernel_rfl) (by kernel_rfl) (fun _ _ _ h => h) (Or.inl ⟨by rfl, ?_⟩) hS ?_
        rotate_left
        · (intro w' hSw; (try dsimp only at hSw); go_simp; try with_reducible rfl)
        try simp only [Act.put, List.setIfInBounds_toArray, List.set_cons_zero, List.set_cons_succ]
        refine wpAnyH_take (i := 24) (oi := { dst := some 6, op := Op.assign (Operand.tmp 50), type := 4, pos := "law.go:52", after := #[{ on := 23, ground := Ground.data }, { on := 22, ground := Ground.chain }, { on := 0, ground := Ground.phase }, { on := 1, ground := Ground.phase }, { on := 2, ground := Ground.phase }, { on := 3, ground := Ground.phase }, { on := 4, ground := Ground.phase }, { on := 5, ground := Ground.phase }, { on := 6, ground := Ground.phase }, { on := 7, ground := Ground.phase }, { on := 8, ground := Ground.phase }, { on := 9, ground := Ground.phase }, { on := 10, ground := Ground.phase }, { on := 11, ground := Ground.phase }, { on := 12, ground := Ground.phase }, { on := 13, ground := Ground.phase }, { on := 14, ground := Ground.phase }, { on := 15, ground := Ground.phase }, { on := 16, ground := Ground.phase }, { on := 17, ground := Ground.phase }, { on := 18, ground := Ground.phase }, { on := 19, ground := Ground.phase }, { on := 20, ground := Ground.phase }, { on := 21, ground := Ground.phase }, { on := 22, ground := Ground.phase }, { on := 23, ground := Ground.phase }], guard := none }) (v := ?_) rfl (by kernel_rfl) (by kernel_rfl) (by kernel_rfl) (fun _ _ _ h => h) (Or.inl ⟨by rfl, ?_⟩) hS ?_
        rotate_left
        · (intro w' hSw; (try dsimp only at hSw); go_simp; try with_reducible rfl)
        try simp only [Act.put, List.setIfInBounds_toArray, List.set_cons_zero, List.set_cons_succ]
        refine wpAnyH_done (by kernel_rfl) ?_ _
        have hfin := hS.2.2.2.2.2.2.2.2
        clear hS cx0 cx1 cy0 cy1 z0 z1 z2 z3
        go_wp2_with fail
        go_ret
        exact ⟨by simp, hfin⟩
      · have e4 : decide ((8 : Int) < (z.dn.ds.length : Int)) = true := decide_eq_true (by omega)
        have e5 : (8 : Int) < (z.dn.ds.length : Int) := by omega
        have e6 : decide (8 < z.dn.ds.length) = true := decide_eq_true (by omega)
        go_wp2_with fail
        go_ret
        exact ⟨rfl, sb⟩
    · have e1 : decide ((8 : Int) < (z.up.ds.length : Int)) = true := decide_eq_true (by omega)
      have e2 : (8 : Int) < (z.up.ds.length : Int) := by omega
      have e3 : decide (8 < z.up.ds.length) = true := decide_eq_true (by omega)
      go_wp2_with fail
      go_ret
      exact ⟨rfl, sb⟩
end Go.Proofs.YthpibilefdmemaaDoor
