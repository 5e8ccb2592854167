/- frac.Right: by its contract. -/
import Derived.Test.YthpibilefdmemaaDoorFrac6
namespace Go.Proofs.YthpibilefdmemaaDoor
open Go.RowKit

/-- May a fraction be? -/
def frightB (r s : Raw) : Bool := rightB r.neg r.ds && (rightB s.neg s.ds && (!s.neg && (s.ds.isEmpty || (!decide (val BB s.ds = 1) && decide (Nat.gcd (val BB r.ds) (val BB s.ds) = 1)))))
theorem frightB_iff (z y : Int) {r s : Raw} (h1 : r.neg = decide (z < 0)) (h2 : r.ds = dg BB z.natAbs) (h3 : s.neg = decide (y < 0)) (h4 : s.ds = dg BB y.natAbs) :
    frightB r s = true ↔ ∃ q : Rat, z = q.num ∧ y = und q := by
  unfold frightB
  rw [h1, h2, h3, h4, rightB_dg, rightB_dg, dg_val BB2, dg_val BB2, Bool.true_and, Bool.true_and]
  have he : (dg BB y.natAbs).isEmpty = decide (y = 0) := by
    rw [Bool.eq_iff_iff, List.isEmpty_iff, dg_eq_nil BB2]; simp
  rw [he]
  constructor
  · intro h
    simp only [Bool.and_eq_true, Bool.or_eq_true, Bool.not_eq_true', decide_eq_true_eq, decide_eq_false_iff_not] at h
    obtain ⟨hy, h0 | ⟨hn1, hg⟩⟩ := h
    · subst h0; exact ⟨(z : Rat), by rw [Rat.num_intCast], by rw [und_int]⟩
    · by_cases h0 : y = 0
      · subst h0; exact ⟨(z : Rat), by rw [Rat.num_intCast], by rw [und_int]⟩
      · refine ⟨⟨z, y.natAbs, by omega, hg⟩, rfl, ?_⟩
        unfold und
        rw [if_neg hn1]
        show y = (y.natAbs : Int)
        omega
  · rintro ⟨q, rfl, rfl⟩
    have hr := q.reduced
    have hd := q.den_nz
    unfold und
    by_cases h : q.den = 1
    · simp [h]
    · simp only [if_neg h, Bool.and_eq_true, Bool.or_eq_true, Bool.not_eq_true', decide_eq_true_eq, decide_eq_false_iff_not, Int.natAbs_natCast]
      exact ⟨by omega, .inr ⟨h, hr⟩⟩

set_option maxRecDepth 100000 in
set_option maxHeartbeats 3200000 in
theorem FRight_any (r s : Raw) (w : World) (hr : RawOk w r) (hs : RawOk w s) (hl : r.ds.length ≤ 1000) (hk : s.ds.length ≤ 1000) :
    Calls Tryd.prog 38 #[.agg #[.bool r.neg, .slice r.at_ r.ds.length r.cap, .bool s.neg, .slice s.at_ s.ds.length s.cap]] w fun e w' => e = .returned (.bool (frightB r s)) ∧ Below w.heap.size w w' := by
  generalize hP : (fun (e : Ending) (w' : World) => e = .returned (.bool (frightB r s)) ∧ Below w.heap.size w w') = Post
  have HP := hide hP
  clear hP
  obtain ⟨W, hW⟩ : ∃ W, w.alloc (.cells #[.bool r.neg, .slice r.at_ r.ds.length r.cap, .bool s.neg, .slice s.at_ s.ds.length s.cap] 58) = W := ⟨_, rfl⟩
  have bx : Blk W w.heap.size 58 #[.bool r.neg, .slice r.at_ r.ds.length r.cap, .bool s.neg, .slice s.at_ s.ds.length s.cap] := by rw [← hW]; exact Blk.new w _ _
  have sb : Below w.heap.size w W := by rw [← hW]; exact (Below.refl w.heap.size w).alloc (Nat.le_refl _) _
  have hr0 := hr.below sb (Nat.le_refl _)
  have hs0 := hs.below sb (Nat.le_refl _)
  have HW := hide hW
  clear hW
  go_enter Tryd.func38, Tryd.ntmps38
  go_upto_region 1 with (fail)
  rw [HW.out]
  clear HW
  obtain ⟨x0, x1, x2, x3, -⟩ := bx.c4
  have HF : Hid (frightB r s = (rightB r.neg r.ds && (rightB s.neg s.ds && (!s.neg && (s.ds.isEmpty || (!decide (val BB s.ds = 1) && decide (Nat.gcd (val BB r.ds) (val BB s.ds) = 1))))))) := hide rfl
  go_wp2_with fail
  refine (Right_any r.neg r.at_ r.cap r.ds W hr0.dig (by omega)).mono ?_
  rintro e w1 ⟨rfl, hb1⟩
  replace bx := bx.below hb1 bx.lt
  replace sb := sb.trans (hb1.mono sb.size)
  replace hs0 := hs0.below hb1 (Nat.le_refl _)
  replace hr0 := hr0.below hb1 (Nat.le_refl _)
  clear x0 x1 x2 x3 hb1
  cases h1 : rightB r.neg r.ds with
  | false =>
    have HV : Hid (frightB r s = false) := hide (by rw [HF.out, h1]; rfl)
    clear h1
    go_wp2_with fail
    rw [← HP.out]
    exact ⟨by rw [HV.out]; rfl, sb⟩
  | true =>
    obtain ⟨x0, x1, x2, x3, -⟩ := bx.c4
    have H1 := hide h1
    clear h1
    go_wp2_with fail
    refine (Right_any s.neg s.at_ s.cap s.ds w1 hs0.dig (by omega)).mono ?_
    rintro e w2 ⟨rfl, hb2⟩
    replace bx := bx.below hb2 bx.lt
    replace sb := sb.trans (hb2.mono sb.size)
    replace hs0 := hs0.below hb2 (Nat.le_refl _)
    replace hr0 := hr0.below hb2 (Nat.le_refl _)
    clear x0 x1 x2 x3 hb2
    cases h2 : rightB s.neg s.ds with
    | false =>
      have HV : Hid (frightB r s = false) := hide (by rw [HF.out, h2, H1.out]; rfl)
      clear h2
      go_wp2_with fail
      rw [← HP.out]
      exact ⟨by rw [HV.out]; rfl, sb⟩
    | true =>
      obtain ⟨z, hz1, hz2⟩ := rightB_val H1.out
      obtain ⟨y, hy1, hy2⟩ := rightB_val h2
      have H2 := hide h2
      have hiz : IntV w2 (.agg #[.bool r.neg, .slice r.at_ r.ds.length r.cap]) z := ⟨r.at_, r.cap, by rw [hz1, hz2], by rw [← hz2]; exact hr.fit, by rw [← hz2]; exact hr0.dig⟩
      have hiy : IntV w2 (.agg #[.bool s.neg, .slice s.at_ s.ds.length s.cap]) y := ⟨s.at_, s.cap, by rw [hy1, hy2], by rw [← hy2]; exact hs.fit, by rw [← hy2]; exact hs0.dig⟩
      have sz : Sm z := by unfold Sm len; rw [← hz2]; omega
      have sy : Sm y := by unfold Sm len; rw [← hy2]; omega
      have HZ : Hid (val BB r.ds = z.natAbs) := hide (by rw [hz2, dg_val BB2])
      have HY : Hid (val BB s.ds = y.natAbs) := hide (by rw [hy2, dg_val BB2])
      have HN : Hid (s.neg = decide (y < 0)) := hide hy1
      have HE : Hid (s.ds.isEmpty = decide (s.ds.length = 0)) := hide (by cases s.ds <;> rfl)
      clear h2 hz1 hz2 hy1 hy2 hr hs hr0 hs0
      generalize s.ds.length = l at *
      generalize r.ds.length = k at *
      obtain ⟨x0, x1, x2, x3, -⟩ := bx.c4
      cases hn : s.neg with
      | true =>
        rw [hn] at x2
        have HV : Hid (frightB r s = false) := hide (by rw [HF.out, hn]; simp)
        clear hn
        go_wp2_with fail
        rw [← HP.out]
        exact ⟨by rw [HV.out]; rfl, sb⟩
      | false =>
        rw [hn] at x2 hiy bx
        have HNF := hide hn
        clear hn
        by_cases h0 : l = 0
        · have HV : Hid (frightB r s = true) := hide (by rw [HF.out, H1.out, H2.out, HE.out, HNF.out, h0]; rfl)
          have e0 : ((l : Int) == 0) = true := by simp [h0]
          subst h0
          clear x0
          go_wp2_with fail
          rw [← HP.out]
          exact ⟨by rw [HV.out]; rfl, sb⟩
        · have e0 : ((l : Int) == 0) = false := beq_eq_false_iff_ne.2 (by omega)
          have e1 : decide (l = 0) = false := decide_eq_false h0
          have HE2 := hide e1
          have hyp : 0 ≤ y := by
            have h := HN.out
            rw [HNF.out] at h
            simpa using h.symm
          clear h0
          go_wp2_with fail
          refine (isOne_any w2 hiy sy).mono ?_
          rintro e w3 ⟨rfl, hb3⟩
          replace bx := bx.below hb3 bx.lt
          replace sb := sb.trans (hb3.mono sb.size)
          replace hiz := hiz.below hb3 (Nat.le_refl _)
          replace hiy := hiy.below hb3 (Nat.le_refl _)
          clear x0 x1 x2 x3 hb3 e0 e1
          by_cases hone : y = 1
          · have e2 := decide_eq_true hone
            have HV : Hid (frightB r s = false) := hide (by rw [HF.out, HY.out, HE.out, HE2.out, hone]; simp)
            clear hone
            go_wp2_with fail
            rw [← HP.out]
            exact ⟨by rw [HV.out]; rfl, sb⟩
          · have e2 := decide_eq_false hone
            have HV : Hid (frightB r s = decide (((Nat.gcd z.natAbs y.natAbs : Nat) : Int) = 1)) := hide (by
              rw [HF.out, H1.out, H2.out, HNF.out, HY.out, HZ.out, HE.out, HE2.out]
              have : ¬ y.natAbs = 1 := by omega
              rw [Bool.eq_iff_iff]
              simp [this]
              omega)
            clear hone hyp
            obtain ⟨x0, x1, x2, x3, -⟩ := bx.c4
            go_wp2_with fail
            refine (Gcd_any w3 hiz hiy sz sy).mono ?_
            rintro e w4 ⟨g, rfl, hg, hb4⟩
            replace sb := sb.trans (hb4.mono sb.size)
            clear x0 x1 x2 x3 hb4
            go_wp2_with fail
            refine (isOne_any w4 hg (sm_gcd sz sy)).mono ?_
            rintro e w5 ⟨rfl, hb5⟩
            replace sb := sb.trans (hb5.mono sb.size)
            clear e2
            generalize hv : decide (((Nat.gcd z.natAbs y.natAbs : Nat) : Int) = 1) = vv at *
            clear hv
            go_wp2_with fail
            rw [← HP.out]
            exact ⟨by rw [HV.out]; rfl, sb⟩
end Go.Proofs.YthpibilefdmemaaDoor
