/- whole.divide: by its contract. -/
import Derived.Test.YthpibilefdmemaaDoorLong
namespace Go.Proofs.YthpibilefdmemaaDoor
open Go.RowKit

/-- What division of digits leaves. -/
def DvPost (w : World) (A B : List Nat) (e : Ending) (w' : World) : Prop :=
  ∃ a1 c1 out a2 c2 left, e = .returned (.tuple #[.slice a1 (List.length out) c1, .slice a2 (List.length left) c2]) ∧ Fit a1 out.length c1 ∧ Fit a2 left.length c2 ∧ Dg .u32 w' a1 out ∧ Dg .u32 w' a2 left ∧ Digs BB out ∧ Digs BB left ∧ val BB out = val BB A / val BB B ∧ val BB left = val BB A % val BB B ∧ out.length ≤ A.length ∧ left.length ≤ A.length ∧ Below w.heap.size w w'

theorem dg_alloc1 (w : World) (t : TypeId) (d : Nat) : Dg .u32 (w.alloc (.cells #[.int .u32 (d : Int)] t)) (some ⟨w.heap.size, 0, none⟩) [d] :=
  DRow.dg (k := .u32) (t := t) (ds := [d]) (Blk.new w t _)

set_option maxRecDepth 100000 in
set_option maxHeartbeats 1600000 in
theorem divide_any (p q : Option Addr) (cp cq : Nat) (A B : List Nat) (w : World) (hA : Dg .u32 w p A) (hB : Dg .u32 w q B) (fA : Fit p A.length cp) (cA : Canon BB A) (cB : Canon BB B) (hB0 : B ≠ []) (hAn : A.length ≤ 1099511627776) :
    Calls Tryd.prog 64 #[.slice p A.length cp, .slice q B.length cq] w (DvPost w A B) := by
  generalize hP : DvPost w A B = Post
  have HP := hide hP
  clear hP
  have hcm := compare_any p q cp cq A B w hA hB cA cB (by omega)
  have hpos := Canon.pos (by rw [BB_eq]; decide) cB hB0
  go_enter Tryd.func64, Tryd.ntmps64
  go_wp2_with fail
  refine hcm.mono ?_
  clear hcm
  rintro e w1 ⟨rfl, n, rfl⟩
  by_cases hlt : val BB A < val BB B
  · rw [show ordZ (val BB A) (val BB B) = -1 by rw [ordZ, if_pos (by omega)]]
    have hco := copied_any p cp A (w.drewN n) hA fA cA.1 hAn
    go_wp2_with fail
    refine hco.mono ?_
    clear hco
    rintro e w2 ⟨a, cap, ds, rfl, hf, hd, hds, hv, hl, hb⟩
    go_wp2_with fail
    rw [← HP.out]
    refine ⟨none, 0, [], a, cap, ds, ?_, ⟨Nat.zero_le _, fun _ => rfl⟩, hf, Dg.nil _ _, hd, fun x hx => by simp at hx, hds, by rw [Nat.div_eq_of_lt hlt]; rfl, by rw [hv, Nat.mod_eq_of_lt hlt], Nat.zero_le _, hl, (below_drewN (Below.refl _ w) n).trans hb⟩
    rfl
  · have hge : (decide (ordZ (val BB A) (val BB B) < 0)) = false := by
      rw [ordZ, if_neg (by omega)]
      split <;> rfl
    generalize ordZ (val BB A) (val BB B) = oz at hge
    by_cases h1 : B.length = 1
    · obtain ⟨d, rfl⟩ : ∃ d, B = [d] := by
        rcases B with _ | ⟨d, _ | ⟨e, r⟩⟩
        · exact absurd rfl hB0
        · exact ⟨d, rfl⟩
        · simp at h1
      obtain ⟨b1, o1, rfl, hc1, hl1⟩ := hB.at (i := 0) (by simp)
      have hd9 := cB.1 d (by simp)
      have hvd : val BB [d] = d := by simp [val]
      rw [hvd] at hlt hpos
      simp only [List.getElem_cons_zero, Nat.add_zero] at hc1
      rw [BB_eq] at hd9
      have hsh := short_any p cp A d (w.drewN n) hA cA.1 hAn hpos (by omega)
      go_wp2_with fail
      refine hsh.mono ?_
      clear hsh
      rintro e w2 ⟨a, cap, out, rfl, hf, hdg, hds, hv, hl, hb⟩
      go_wp2_with fail
      rw [← HP.out]
      have hA1 : 1 ≤ A.length := by
        rcases A with _ | ⟨x, r⟩
        · simp [val] at hlt; omega
        · simp
      have hr9 : val BB A % d < BB := by rw [BB_eq]; exact Nat.lt_trans (Nat.mod_lt _ hpos) hd9
      have hbl := (below_drewN (Below.refl _ w) n).trans hb
      refine ⟨a, cap, out, some ⟨w2.heap.size, 0, none⟩, 1, [val BB A % d], ?_, hf, ⟨Nat.le_refl _, fun h => by cases h⟩, hdg.below (Below.alloc (Below.refl _ _) (Nat.le_refl _) _) (Nat.le_refl _), dg_alloc1 w2 _ _, hds, fun x hx => by rw [List.mem_singleton] at hx; rw [hx]; exact hr9, by rw [hvd]; exact hv, by rw [hvd]; simp [val], by omega, hA1, hbl.alloc hbl.size _⟩
      rw [hl]
      rfl
    · obtain ⟨m, hm⟩ : ∃ m, B.length = m + 2 := ⟨B.length - 2, by have : B.length ≠ 0 := by simpa using hB0
                                                                  omega⟩
      have hle : m + 2 ≤ A.length := by
        rw [← hm]
        rcases Nat.lt_or_ge A.length B.length with h | h
        · exact absurd (cA.lt_of_len cB h) hlt
        · exact h
      have hlg := long_any p q cp cq A B m (w.drewN n) hA hB cA.1 cB hm hle hAn
      have e1 : (((m : Int) + 2) == 1) = false := by simp; omega
      rw [hm] at hlg ⊢
      go_wp2_with fail
      refine hlg.mono ?_
      clear hlg
      rintro e w2 ⟨a1, c1, out, a2, c2, left, rfl, f1, f2, d1, d2, g1, g2, v1, v2, l1, l2, hb⟩
      go_wp2_with fail
      rw [← HP.out]
      refine ⟨a1, c1, out, a2, c2, left, ?_, f1, f2, d1, d2, g1, g2, v1, v2, l1, by omega, (below_drewN (Below.refl _ w) n).trans hb⟩
      rfl
end Go.Proofs.YthpibilefdmemaaDoor
