/- simplex's own: by its contract. -/
import Derived.Test.YtphjffbldhhdiaaGreatDoorSxMake
import Derived.Test.YtphjffbldhhdiaaGreatDoorSxTill
namespace Go.Proofs.YtphjffbldhhdiaaGreatDoor
open Go.RowKit

theorem FracV.halves {w : World} {n m : Bool} {a b : Option Addr} {l k i j : Nat} {q : Rat} (h : FracV w (.agg #[.bool n, .slice a l k, .bool m, .slice b i j]) q) : IntV w (.agg #[.bool n, .slice a l k]) q.num ∧ IntV w (.agg #[.bool m, .slice b i j]) (und q) := by
  obtain ⟨_, _, _, _, _, _, _, _, e, h1, h2⟩ := h
  simp only [Value.agg.injEq, Array.mk.injEq, List.cons.injEq, Value.bool.injEq, Value.slice.injEq, and_true] at e
  obtain ⟨rfl, ⟨rfl, rfl, rfl⟩, rfl, rfl, rfl, rfl⟩ := e
  exact ⟨h1, h2⟩
theorem Qz.halves {q : Rat} (h : Qz q) : Sm q.num ∧ Sm (und q) := ⟨Nat.le_trans h.1 (by decide), Nat.le_trans (len_und h) (by decide)⟩
theorem IntV.form {w : World} {v : Value} {z : Int} (h : IntV w v z) : ∃ n a l k, v = .agg #[.bool n, .slice a l k] := by
  obtain ⟨a, c, e, -⟩ := h
  exact ⟨_, _, _, _, e⟩

/-- What own leaves. -/
def RowPost (w : World) (n : Nat) (f : Nat → Rat) (e : Ending) (w' : World) : Prop :=
  Below w.heap.size w w' ∧ ∃ g, w.heap.size ≤ g ∧ e = .returned (.slice (some ⟨g, 0, none⟩) n n) ∧ ∀ i, i < n → FAt w' g (i * 4) (f i)

set_option maxRecDepth 100000 in
set_option maxHeartbeats 3200000 in
theorem own_any {n cap : Nat} {f : Nat → Rat} {a : Option Addr} {g : Nat} (w : World) (ha : 0 < n → a = some ⟨g, 0, none⟩) (hf : ∀ i, i < n → FAt w g (i * 4) (f i)) (hn : n ≤ 1000) (hz : ∀ i, i < n → Qz (f i)) :
    Calls Tryz.prog 25 #[.slice a n cap] w (RowPost w n f) := by
  generalize hP : RowPost w n f = Post
  have HP := hide hP
  clear hP
  go_enter Tryz.func25, Tryz.ntmps25
  go_wp2_with (at_make; refine wpList_make_frac rfl _ _ rfl _ _ n rfl rfl rfl rfl (by omega) ?_)
  intro W hG0 hfr sb
  have hf1 : ∀ i, i < n → FAt W g (i * 4) (f i) := fun i hi => (hf i hi).below sb (Nat.le_refl _)
  generalize hGG : w.heap.size = G at *
  replace hGG := hide hGG
  go_wp2_with fail
  go_loopg [12] n (fun k v12 wr => ∃ j : Nat, j + k = n ∧ v12 = .int .i64 (j : Int) ∧ Below G w wr ∧ Hid (∀ i, i < n → FAt wr G (i * 4) (if i < j then f i else 0)) ∧ (∀ i, wr.frozen? ⟨G, i, none⟩ = false))
  case atStart => exact ⟨0, by omega, rfl, sb, hide (fun i hi => by rw [if_neg (Nat.not_lt_zero _)]; exact hG0 i hi), hfr⟩
  case round =>
    obtain ⟨j, hjk, rfl, hB, HF, hfr⟩ := hrel
    rcases Nat.eq_zero_or_pos gk with h0 | h0
    · subst h0
      obtain rfl : j = n := by omega
      go_wp2_with fail
      rw [← HP.out]
      exact ⟨by rw [hGG.out]; exact hB, G, Nat.le_of_eq hGG.out, rfl, fun i hi => by have := HF.out i hi; rwa [if_pos hi] at this⟩
    · have hj : j < n := by omega
      obtain rfl := ha (by omega)
      obtain ⟨xn, xa, xl, xk, xm, xb, xi, xj, x0, x1, x2, x3, hx⟩ := (hf j hj).below hB (Nat.le_of_eq hGG.out)
      obtain ⟨hxa, hxb⟩ := hx.halves
      obtain ⟨sxa, sxb⟩ := (hz j hj).halves
      obtain ⟨W2, hW2⟩ : ∃ W2, wr.alloc (.cells #[.bool xn, .slice xa xl xk, .bool xm, .slice xb xi xj] 39) = W2 := ⟨_, rfl⟩
      have bx : Blk W2 wr.heap.size 39 #[.bool xn, .slice xa xl xk, .bool xm, .slice xb xi xj] := by rw [← hW2]; exact Blk.new wr _ _
      have sb2 : Below wr.heap.size wr W2 := by rw [← hW2]; exact (Below.refl wr.heap.size wr).alloc (Nat.le_refl _) _
      obtain ⟨b0, b1, b2, b3, -⟩ := bx.c4
      have ya := hxa.below sb2 (Nat.le_refl _)
      have yb := hxb.below sb2 (Nat.le_refl _)
      have HW2 := hide hW2
      clear hW2 bx hxa hxb hx
      have ej : (j : Int) < (n : Int) := by omega
      go_upto_region 6 with (fail)
      rw [HW2.out]
      clear HW2 x0 x1 x2 x3
      refine wp_region_till (S := fun w' => w'.cell? ⟨wr.heap.size, 0, none⟩ = some (.bool xn) ∧ w'.cell? ⟨wr.heap.size, 1, none⟩ = some (.slice xa xl xk) ∧ w'.cell? ⟨wr.heap.size, 2, none⟩ = some (.bool xm) ∧ w'.cell? ⟨wr.heap.size, 3, none⟩ = some (.slice xb xi xj) ∧ Below W2.heap.size W2 w') (fun i => decide (i < 11)) (by kernel_rfl) (⟨b0, b1, b2, b3, (Below.refl _ _).drew⟩) (fun hS => ?_)
      refine Till_take (i := 0) (oi := ⟨some 17, Op.move (Operand.tmp 4), 25, "simplex.go:69", #[], none⟩) (v := ?_) rfl (by kernel_rfl) (by kernel_rfl) (by kernel_rfl) (fun _ _ _ h => h) rfl (by kernel_rfl) (Or.inl ⟨by rfl, ?_⟩) hS ?_
      rotate_left
      · (intro w' hSw; (try dsimp only at hSw); go_simp; try with_reducible rfl)
      try simp only [Act.put, sB, sC, sD]
      refine Till_take (i := 1) (oi := ⟨some 18, Op.move (Operand.tmp 5), 3, "simplex.go:69", #[], none⟩) (v := ?_) rfl (by kernel_rfl) (by kernel_rfl) (by kernel_rfl) (fun _ _ _ h => h) rfl (by kernel_rfl) (Or.inl ⟨by rfl, ?_⟩) hS ?_
      rotate_left
      · (intro w' hSw; (try dsimp only at hSw); go_simp; try with_reducible rfl)
      try simp only [Act.put, sB, sC, sD]
      refine Till_take (i := 2) (oi := ⟨some 19, Op.move (Operand.tmp 3), 81, "simplex.go:69", #[], none⟩) (v := ?_) rfl (by kernel_rfl) (by kernel_rfl) (by kernel_rfl) (fun _ _ _ h => h) rfl (by kernel_rfl) (Or.inl ⟨by rfl, ?_⟩) hS ?_
      rotate_left
      · (intro w' hSw; (try dsimp only at hSw); go_simp; try with_reducible rfl)
      try simp only [Act.put, sB, sC, sD]
      refine Till_take (i := 3) (oi := ⟨some 20, Op.fieldAddr 39 (Operand.tmp 6) 0, 0, "simplex.go:69", #[], none⟩) (v := ?_) rfl (by kernel_rfl) (by kernel_rfl) (by kernel_rfl) (fun _ _ _ h => h) rfl (by kernel_rfl) (Or.inl ⟨by rfl, ?_⟩) hS ?_
      rotate_left
      · (intro w' hSw; (try dsimp only at hSw); go_simp; try with_reducible rfl)
      try simp only [Act.put, sB, sC, sD]
      refine Till_take (i := 4) (oi := ⟨some 21, Op.load 37 (Operand.tmp 20), 37, "simplex.go:69", #[eD 3], none⟩) (v := ?_) rfl (by kernel_rfl) (by kernel_rfl) (by kernel_rfl) (fun _ _ _ h => h) rfl (by kernel_rfl) (Or.inl ⟨by rfl, ?_⟩) hS ?_
      rotate_left
      · (intro w' hSw; (try dsimp only at hSw); go_simp; try with_reducible rfl)
      try simp only [Act.put, sB, sC, sD]
      refine Till_take (i := 6) (oi := ⟨some 23, Op.move (Operand.tmp 3), 81, "simplex.go:69", #[], none⟩) (v := ?_) rfl (by kernel_rfl) (by kernel_rfl) (by kernel_rfl) (fun _ _ _ h => h) rfl (by kernel_rfl) (Or.inl ⟨by rfl, ?_⟩) hS ?_
      rotate_left
      · (intro w' hSw; (try dsimp only at hSw); go_simp; try with_reducible rfl)
      try simp only [Act.put, sB, sC, sD]
      refine Till_take (i := 7) (oi := ⟨some 24, Op.fieldAddr 39 (Operand.tmp 6) 1, 0, "simplex.go:69", #[], none⟩) (v := ?_) rfl (by kernel_rfl) (by kernel_rfl) (by kernel_rfl) (fun _ _ _ h => h) rfl (by kernel_rfl) (Or.inl ⟨by rfl, ?_⟩) hS ?_
      rotate_left
      · (intro w' hSw; (try dsimp only at hSw); go_simp; try with_reducible rfl)
      try simp only [Act.put, sB, sC, sD]
      refine Till_take (i := 8) (oi := ⟨some 25, Op.load 37 (Operand.tmp 24), 37, "simplex.go:69", #[eD 7], none⟩) (v := ?_) rfl (by kernel_rfl) (by kernel_rfl) (by kernel_rfl) (fun _ _ _ h => h) rfl (by kernel_rfl) (Or.inl ⟨by rfl, ?_⟩) hS ?_
      rotate_left
      · (intro w' hSw; (try dsimp only at hSw); go_simp; try with_reducible rfl)
      try simp only [Act.put, sB, sC, sD]
      refine Till_ready (rs := [5]) (by kernel_rfl) (by kernel_rfl) (by simp) ?_
      refine AllReadyT.cons (o := ⟨some 22, Op.call { callee := Callee.value (Operand.tmp 19), args := #[Operand.tmp 21], argTypes := #[37] }, 37, "simplex.go:69", #[eD 2, eD 4], none⟩) rfl (fun K hK => ?_) AllReadyT.nil
      go_simp
      (with_reducible refine (own1_any _ (ya.below (hS.2.2.2.2) (Nat.le_refl _)) sxa).mono ?_)
      rintro e wA ⟨rA, rfl, hA, hb1⟩
      obtain ⟨an, aa, al, ak, rfl⟩ := hA.form
      go_wp2_with fail
      refine hK.out _ _ (keepZ4 hS hb1) (fun hS => ?_)
      clear hK K hb1
      try simp only [Act.put, sB, sC, sD]
      refine Till_ready (rs := [9]) (by kernel_rfl) (by kernel_rfl) (by simp) ?_
      refine AllReadyT.cons (o := ⟨some 26, Op.call { callee := Callee.value (Operand.tmp 23), args := #[Operand.tmp 25], argTypes := #[37] }, 37, "simplex.go:69", #[eD 6, eD 8, eC 5], none⟩) rfl (fun K hK => ?_) AllReadyT.nil
      go_simp
      (with_reducible refine (own1_any _ (yb.below (hS.2.2.2.2) (Nat.le_refl _)) sxb).mono ?_)
      rintro e wC ⟨rC, rfl, hC, hb1⟩
      obtain ⟨cn, ca, cl, ck, rfl⟩ := hC.form
      replace hA := hA.below hb1 (Nat.le_refl _)
      go_wp2_with fail
      refine hK.out _ _ (keepZ4 hS hb1) (fun hS => ?_)
      clear hK K hb1
      try simp only [Act.put, sB, sC, sD]
      refine Till_take (i := 10) (oi := ⟨some 27, Op.build 39 #[(0, Operand.tmp 22), (1, Operand.tmp 26)], 39, "simplex.go:69", #[eD 5, eD 9], none⟩) (v := ?_) rfl (by kernel_rfl) (by kernel_rfl) (by kernel_rfl) (fun _ _ _ h => h) rfl (by kernel_rfl) (Or.inl ⟨by rfl, ?_⟩) hS ?_
      rotate_left
      · (intro w' hSw; (try dsimp only at hSw); go_simp; try with_reducible rfl)
      try simp only [Act.put, sB, sC, sD]
      refine Till_turn (by kernel_rfl) ?_
      refine wpAnyH_take (i := 11) (oi := ⟨some 28, Op.indexAddr 25 (Operand.tmp 17) (Operand.tmp 18), 0, "simplex.go:69", #[eD 0, eD 1, eP 0, eP 1, eP 2, eP 3, eP 4, eP 5, eP 6, eP 7, eP 8, eP 9, eP 10], none⟩) (v := ?_) rfl (by kernel_rfl) (by kernel_rfl) (by kernel_rfl) (fun _ _ _ h => h) (Or.inl ⟨by rfl, ?_⟩) trivial ?_
      rotate_left
      · (intro w' hSw; (try dsimp only at hSw); go_simp; try with_reducible rfl)
      try simp only [Act.put, sB, sC, sD]
      refine wpAnyH_ready (rs := [12]) (by kernel_rfl) (by simp) ?_
      refine AllReadyH.cons (o := ⟨none, Op.store 39 (Operand.tmp 28) (Operand.tmp 27), 0, "simplex.go:69", #[eD 11, eD 10, eC 9, eP 0, eP 1, eP 2, eP 3, eP 4, eP 5, eP 6, eP 7, eP 8, eP 9, eP 10], none⟩) rfl (fun K hK => ?_) AllReadyH.nil
      have hB4 := sb2.trans (hS.2.2.2.2.mono sb2.size)
      have HF5 : Hid (∀ i, i < n → FAt wC G (i * 4) (if i < j then f i else 0)) := hide (fun i hi => (HF.out i hi).below hB4 (Nat.le_refl _))
      have hlt : G < wr.heap.size := (HF.out j hj).lt
      have hfr5 : ∀ i, wC.frozen? ⟨G, i, none⟩ = false := fun i => frozen_below hB4 hlt (hfr i)
      have hB5 : Below G w wC := hB.trans (hB4.mono (Nat.le_of_lt hlt))
      have hq : FracV wC (.agg #[.bool an, .slice aa al ak, .bool cn, .slice ca cl ck]) (f j) := FrV.mk hA hC
      obtain ⟨_, _, _, _, _, _, _, _, z0, z1, z2, z3, -⟩ := HF5.out j hj
      have f0 := hfr5 (j * 4)
      have f1 := hfr5 (j * 4 + 1)
      have f2 := hfr5 (j * 4 + 2)
      have f3 := hfr5 (j * 4 + 3)
      go_simp
      refine hK.out _ _ trivial (fun _ => ?_)
      clear hK K z0 z1 z2 z3 f0 f1 f2 f3
      try simp only [Act.put, sB, sC, sD]
      refine wpAnyH_done (by kernel_rfl) ?_ _


      go_wp2_with fail
      go_roundg (gk - 1)
      case measure => omega
      case rel =>
        refine ⟨j + 1, by omega, by go_num, below_put4 hB5 (Nat.le_refl G) _ _ _ _, hide (fun i hi => ?_), fun i => (frozen_put4 _ _ _ _ _ _ _ _).trans (hfr5 i)⟩
        by_cases he : i = j
        · subst he
          rw [if_pos (by omega)]
          exact FAt.put4_at hq (HF5.out i hi)
        · have h5 := (HF5.out i hi).put4 (n := an) (a := aa) (l := al) (k := ak) (m := cn) (b := ca) (i := cl) (j := ck) (HF5.out j hj) (.inr (by omega))
          have e5 : (if i < j + 1 then f i else 0) = (if i < j then f i else 0) := by
            by_cases h : i < j
            · rw [if_pos h, if_pos (by omega)]
            · rw [if_neg h, if_neg (by omega)]
          rw [e5]
          exact h5
end Go.Proofs.YtphjffbldhhdiaaGreatDoor
