/- collatorlaw01.speaks and Odd: by their contracts. -/
import Derived.Test.YthpibilefdmemaaDoorRSmall
import Derived.Test.YthpibilefdmemaaDoorText
import Derived.Test.YthpibilefdmemaaDoorGcd
import Derived.Test.YthpibilefdmemaaDoorOf
namespace Go.Proofs.YthpibilefdmemaaDoor
open Go.RowKit

theorem sm_small {z : Int} (h : z.natAbs < BB ^ 10) : Sm z := by
  have := dg_len BB2 h
  unfold Sm len; omega

set_option maxRecDepth 100000 in
set_option maxHeartbeats 1600000 in
theorem speaks_any (w : World) (ht : Tab w) : Calls Tryd.prog 11 #[] w fun e w' => e = .returned (.bool true) ∧ Below w.heap.size w w' := by
  go_enter Tryd.func11, Tryd.ntmps11
  go_wp2_with fail
  refine (Of_any (-7) w (by decide) (by decide)).mono ?_
  rintro e w1 ⟨p, rfl, hp, hb1⟩
  go_wp2_with fail
  refine (Of_any 2 w1 (by decide) (by decide)).mono ?_
  rintro e w2 ⟨q, rfl, hq, hb2⟩
  have hp2 := hp.below hb2 (Nat.le_refl _)
  go_wp2_with fail
  refine (Div_any w2 hp2 hq (sm_small (by decide)) (sm_small (by decide))).mono ?_
  rintro e w3 ⟨Q, R, rfl, hQ, hR, hb3⟩
  rw [show (if (2 : Int) = 0 then 0 else -7 / 2) = -4 by decide] at hQ
  rw [show (if (2 : Int) = 0 then 0 else -7 % 2) = 1 by decide] at hR
  obtain ⟨qn, qa, ql, qc, rfl⟩ := hQ.parts
  obtain ⟨rn, ra, rl, rc, rfl⟩ := hR.parts
  have hB3 : Below w.heap.size w w3 := (hb1.trans (hb2.mono hb1.size)).trans (hb3.mono (Nat.le_trans hb1.size hb2.size))
  have ht3 := ht.atBelow hB3 (Nat.le_refl _)
  clear hp hq hp2 hb1 hb2 hb3
  obtain ⟨w5, h5⟩ : ∃ w5, (w3.alloc (.cells #[.bool false, .slice none 0 0] 24)).alloc (.cells #[.bool false, .slice none 0 0] 24) = w5 := ⟨_, rfl⟩
  have hA : Blk w5 w3.heap.size 24 #[.bool false, .slice none 0 0] := by rw [← h5]; exact (Blk.new w3 _ _).alloc _
  have hE : Blk w5 (w3.heap.size + 1) 24 #[.bool false, .slice none 0 0] := by rw [← h5]; exact Blk.new_at _ _ _ (by simp)
  have hb5 : Below w3.heap.size w3 w5 := by rw [← h5]; exact ((Below.refl _ _).alloc (Nat.le_refl _) _).alloc (by simp) _
  obtain ⟨a0, a1, af⟩ := hA.c2
  obtain ⟨e0, e1, ef⟩ := hE.c2
  have hA2 := ((hA.two (.bool qn) (.slice qa ql qc)).far (p := ⟨w3.heap.size + 1, 0, none⟩) (by simp) (.bool rn)).far (p := ⟨w3.heap.size + 1, 1, none⟩) (by simp) (.slice ra rl rc)
  have hE2 := (((hE.far (p := ⟨w3.heap.size, 0, none⟩) (by simp) (.bool qn)).far (p := ⟨w3.heap.size, 1, none⟩) (by simp) (.slice qa ql qc))).two (.bool rn) (.slice ra rl rc)
  have hb7 : Below w3.heap.size w3 ((((w5.setCell ⟨w3.heap.size, 0, none⟩ (.bool qn)).setCell ⟨w3.heap.size, 1, none⟩ (.slice qa ql qc)).setCell ⟨w3.heap.size + 1, 0, none⟩ (.bool rn)).setCell ⟨w3.heap.size + 1, 1, none⟩ (.slice ra rl rc)) := (((hb5.setCell (Nat.le_refl _) _).setCell (Nat.le_refl _) _).setCell (by simp) _).setCell (by simp) _
  clear hb5
  go_upto_region 2 with (fail)
  generalize (((w5.setCell ⟨w3.heap.size, 0, none⟩ (.bool qn)).setCell ⟨w3.heap.size, 1, none⟩ (.slice qa ql qc)).setCell ⟨w3.heap.size + 1, 0, none⟩ (.bool rn)).setCell ⟨w3.heap.size + 1, 1, none⟩ (.slice ra rl rc) = w7 at hA2 hE2 hb7 ⊢
  clear a0 a1 af e0 e1 ef hA hE h5
  obtain ⟨a0, a1, af⟩ := hA2.c2
  go_wp2_with fail
  refine (Text_any w7 (hQ.below hb7 (Nat.le_refl _)) (sm_small (by decide)) (ht3.atBelow hb7 (Nat.le_refl _))).mono ?_
  rintro e w8 ⟨rfl, hb8⟩
  rw [show decZ (-4) = [45, 52] by simp [decZ, Lib.decDigits_one (show 4 < 10 by decide)]]
  clear a0 a1 af
  obtain ⟨e0, e1, ef⟩ := (hE2.below hb8 hE2.lt).c2
  go_wp2_with fail
  refine (Text_any w8 ((hR.below hb7 (Nat.le_refl _)).below hb8 (Nat.le_refl _)) (sm_small (by decide)) ((ht3.atBelow hb7 (Nat.le_refl _)).atBelow hb8 (Nat.le_refl _))).mono ?_
  rintro e w9 ⟨rfl, hb9⟩
  rw [show decZ 1 = [49] by simp [decZ, Lib.decDigits_one (show 1 < 10 by decide)]]
  go_wp2_with fail
  go_ret
  exact ⟨rfl, hB3.trans ((hb7.trans ((hb8.trans (hb9.mono hb8.size)).mono hb7.size)).mono hB3.size)⟩

/-- An integer as it came in. -/
structure Raw where
  neg : Bool
  at_ : Option Addr
  cap : Nat
  ds : List Nat
def Raw.odd (r : Raw) : Bool := decide (10 < r.ds.length) || !rightB r.neg r.ds
/-- A row of integers. -/
def RawRow (w : World) (g : Nat) (l : List Raw) : Prop := ∀ (i : Nat) (h : i < l.length), w.cell? ⟨g, i * 2, none⟩ = some (.bool l[i].neg) ∧ w.cell? ⟨g, i * 2 + 1, none⟩ = some (.slice l[i].at_ l[i].ds.length l[i].cap) ∧ Dg .u32 w l[i].at_ l[i].ds ∧ l[i].ds.length ≤ 9223372036854775807

set_option maxRecDepth 100000 in
set_option maxHeartbeats 1600000 in
theorem Odd_any (g : Nat) (l : List Raw) (w : World) (h : RawRow w g l) (hl : l.length ≤ 1000) :
    Calls Tryd.prog 21 #[.slice (some ⟨g, 0, none⟩) l.length l.length] w fun e w' => e = .returned (.bool (l.any Raw.odd)) ∧ Below w.heap.size w w' := by
  generalize hr : l.any Raw.odd = r
  have HR := hide hr
  clear hr
  go_enter Tryd.func21, Tryd.ntmps21
  go_wp2_with fail
  go_loopg [7] l.length (fun k v wr => ∃ j : Nat, j + k = l.length ∧ v = .int .i64 (j : Int) ∧ Hid ((l.take j).any Raw.odd = false) ∧ Below w.heap.size w wr)
  case atStart => exact ⟨0, by omega, rfl, hide (by simp), Below.refl _ _⟩
  case round =>
    obtain ⟨j, hjk, rfl, HT, hB⟩ := hrel
    rcases Nat.eq_zero_or_pos gk with h0 | h0
    · subst h0
      obtain rfl : j = l.length := by omega
      have HV : Hid (l.any Raw.odd = false) := hide (by have h := HT.out; rwa [List.take_length] at h)
      go_wp2_with fail
      go_ret
      exact ⟨by rw [← HR.out, HV.out]; rfl, hB⟩
    · have hj : j < l.length := by omega
      obtain ⟨k0, k1, hd, hlen⟩ := h j hj
      have HM : Hid (l[j].odd = true → l.any Raw.odd = true) := hide (fun h => List.any_eq_true.2 ⟨_, List.getElem_mem hj, h⟩)
      have HN : Hid (l[j].odd = false → (l.take (j + 1)).any Raw.odd = false) := hide (fun h => by rw [List.take_succ_eq_append_getElem hj, List.any_append, HT.out]; simp [h])
      generalize l[j] = R at *
      obtain ⟨n, a, cap, ds⟩ := R
      simp only at k0 k1 hd hlen
      have b0 := (hB.cell (World.block_lt_of_cell? w _ k0)).trans k0
      have b1 := (hB.cell (World.block_lt_of_cell? w _ k1)).trans k1
      have hd1 := hd.below hB (Nat.le_refl _)
      have hX2 := Blk.new wr 24 #[.bool n, .slice a ds.length cap]
      have hb2 : Below wr.heap.size wr ((wr.alloc (.cells #[.bool n, .slice a ds.length cap] 24))) := (Below.refl _ _).alloc (Nat.le_refl _) _
      go_upto_region 4 with (fail)
      generalize wr.alloc (.cells #[.bool n, .slice a ds.length cap] 24) = W at hX2 hb2 ⊢
      have hd2 := hd1.below hb2 (Nat.le_refl _)
      clear b0 b1
      obtain ⟨x0, x1, xf⟩ := hX2.c2
      have hBW : Below w.heap.size w W := hB.trans (hb2.mono hB.size)
      cases hbig : decide (10 < ds.length) with
      | true =>
        have e1 : decide ((10 : Int) < (ds.length : Int)) = true := by simp at hbig ⊢; omega
        have e2 : (10 : Int) < (ds.length : Int) := by simpa using e1
        have HV := hide (HM.out (by simp [Raw.odd, hbig]))
        clear hbig
        go_wp2_with fail
        go_ret
        exact ⟨by rw [← HR.out, HV.out]; rfl, hBW⟩
      | false =>
        have e1 : decide ((10 : Int) < (ds.length : Int)) = false := by simp at hbig ⊢; omega
        have e2 : ¬ (10 : Int) < (ds.length : Int) := by simpa using e1
        have HB := hide hbig
        clear hbig
        go_wp2_with fail
        refine (RRight_any n a cap ds W hd2 hlen).mono ?_
        rintro e w2 ⟨rfl, hb3⟩
        have hBW2 : Below w.heap.size w w2 := hBW.trans (hb3.mono hBW.size)
        cases hrt : rightB n ds with
        | true =>
          have HV := hide (HN.out (by simp [Raw.odd, HB.out, hrt]))
          clear hrt
          go_wp2_with fail
          go_roundg (gk - 1)
          case measure => omega
          case rel => exact ⟨j + 1, by omega, by go_num, HV, hBW2⟩
        | false =>
          have HV := hide (HM.out (by simp [Raw.odd, hrt]))
          clear hrt
          go_wp2_with fail
          go_ret
          exact ⟨by rw [← HR.out, HV.out]; rfl, hBW2⟩
end Go.Proofs.YthpibilefdmemaaDoor
