/- collatorref02.Right: by its contract. -/
import Derived.Test.YthpibilefdmemaaDoorRf4
namespace Go.Proofs.YthpibilefdmemaaDoor
open Go.RowKit

theorem FracV.fr {w : World} {v : Value} {q : Rat} (h : FracV w v q) : FrV w v q.num (und q) := h
set_option maxRecDepth 100000 in
set_option maxHeartbeats 3200000 in
theorem RRight2_any (r s : Raw) (w : World) (hr : RawOk w r) (hs : RawOk w s) (hl : r.ds.length ≤ 1000) (hk : s.ds.length ≤ 1000) :
    Calls Tryd.prog 39 #[.agg #[.bool r.neg, .slice r.at_ r.ds.length r.cap, .bool s.neg, .slice s.at_ s.ds.length s.cap]] w fun e w' => e = .returned (.bool (frightB r s)) ∧ Below w.heap.size w w' := by
  generalize hP : (fun (e : Ending) (w' : World) => e = .returned (.bool (frightB r s)) ∧ Below w.heap.size w w') = Post
  have HP := hide hP
  clear hP
  obtain ⟨W, hW⟩ : ∃ W, w.alloc (.cells #[.bool r.neg, .slice r.at_ r.ds.length r.cap, .bool s.neg, .slice s.at_ s.ds.length s.cap] 58) = W := ⟨_, rfl⟩
  have bx : Blk W w.heap.size 58 #[.bool r.neg, .slice r.at_ r.ds.length r.cap, .bool s.neg, .slice s.at_ s.ds.length s.cap] := by rw [← hW]; exact Blk.new w _ _
  have sb : Below w.heap.size w W := by rw [← hW]; exact (Below.refl w.heap.size w).alloc (Nat.le_refl _) _
  have hr0 := hr.below sb (Nat.le_refl _)
  have hs0 := hs.below sb (Nat.le_refl _)
  have HW := hide hW
  clear hW
  go_enter Tryd.func39, Tryd.ntmps39
  go_upto_region 1 with (fail)
  rw [HW.out]
  clear HW
  obtain ⟨x0, x1, x2, x3, -⟩ := bx.c4
  have HF : Hid (frightB r s = (rightB r.neg r.ds && (rightB s.neg s.ds && (!s.neg && (s.ds.isEmpty || (!decide (val BB s.ds = 1) && decide (Nat.gcd (val BB r.ds) (val BB s.ds) = 1))))))) := hide rfl
  go_wp2_with fail
  refine (RRight_any r.neg r.at_ r.cap r.ds W hr0.dig (by omega)).mono ?_
  rintro e w1 ⟨rfl, hb1⟩
  replace bx := bx.below hb1 bx.lt
  replace sb := sb.trans (hb1.mono sb.size)
  replace hs0 := hs0.below hb1 (Nat.le_refl _)
  replace hr0 := hr0.below hb1 (Nat.le_refl _)
  clear x0 x1 x2 x3 hb1
  cases h1 : rightB r.neg r.ds with
  | false =>
    have HV : Hid (frightB r s = false) := hide (by rw [HF.out, h1]; rfl)
    clear h1
    go_wp2_with fail
    rw [← HP.out]
    exact ⟨by rw [HV.out]; rfl, sb⟩
  | true =>
    obtain ⟨x0, x1, x2, x3, -⟩ := bx.c4
    have H1 := hide h1
    clear h1
    go_wp2_with fail
    refine (RRight_any s.neg s.at_ s.cap s.ds w1 hs0.dig (by omega)).mono ?_
    rintro e w2 ⟨rfl, hb2⟩
    replace bx := bx.below hb2 bx.lt
    replace sb := sb.trans (hb2.mono sb.size)
    replace hs0 := hs0.below hb2 (Nat.le_refl _)
    replace hr0 := hr0.below hb2 (Nat.le_refl _)
    clear x0 x1 x2 x3 hb2
    cases h2 : rightB s.neg s.ds with
    | false =>
      have HV : Hid (frightB r s = false) := hide (by rw [HF.out, h2, H1.out]; rfl)
      clear h2
      go_wp2_with fail
      rw [← HP.out]
      exact ⟨by rw [HV.out]; rfl, sb⟩
    | true =>
      obtain ⟨z, hz1, hz2⟩ := rightB_val H1.out
      obtain ⟨y, hy1, hy2⟩ := rightB_val h2
      have H2 := hide h2
      have hiz : IntV w2 (.agg #[.bool r.neg, .slice r.at_ r.ds.length r.cap]) z := ⟨r.at_, r.cap, by rw [hz1, hz2], by rw [← hz2]; exact hr.fit, by rw [← hz2]; exact hr0.dig⟩
      have hiy : IntV w2 (.agg #[.bool s.neg, .slice s.at_ s.ds.length s.cap]) y := ⟨s.at_, s.cap, by rw [hy1, hy2], by rw [← hy2]; exact hs.fit, by rw [← hy2]; exact hs0.dig⟩
      have sz : Sm z := by unfold Sm len; rw [← hz2]; omega
      have sy : Sm y := by unfold Sm len; rw [← hy2]; omega
      have HZ : Hid (val BB r.ds = z.natAbs) := hide (by rw [hz2, dg_val BB2])
      have HY : Hid (val BB s.ds = y.natAbs) := hide (by rw [hy2, dg_val BB2])
      have HN : Hid (s.neg = decide (y < 0)) := hide hy1
      have HZ1 : Hid (r.neg = decide (z < 0)) := hide hz1
      have HZ2 : Hid (r.ds = dg BB z.natAbs) := hide hz2
      have HZ4 : Hid (s.ds = dg BB y.natAbs) := hide hy2
      have HE : Hid (s.ds.isEmpty = decide (s.ds.length = 0)) := hide (by cases s.ds <;> rfl)
      clear h2 hz1 hz2 hy1 hy2 hr hs hr0 hs0
      have hLL : s.ds.length ≤ 1000 := hk
      have hKK : r.ds.length ≤ 1000 := hl
      generalize hgl : s.ds.length = l at *
      generalize hgk : r.ds.length = k at *
      have HGL := hide hgl
      have HGK := hide hgk
      clear hgl hgk
      obtain ⟨x0, x1, x2, x3, -⟩ := bx.c4
      cases hn : s.neg with
      | true =>
        rw [hn] at x2
        have HV : Hid (frightB r s = false) := hide (by rw [HF.out, hn]; simp)
        clear hn
        go_wp2_with fail
        rw [← HP.out]
        exact ⟨by rw [HV.out]; rfl, sb⟩
      | false =>
        rw [hn] at x2 hiy bx
        have HNF := hide hn
        clear hn
        have hyp : 0 ≤ y := by
          have h := HN.out
          rw [HNF.out] at h
          simpa using h.symm
        have HQ : Hid (frightB r s = decide (z = (Rat.divInt z (ben y)).num ∧ y = und (Rat.divInt z (ben y)))) := hide (by
          have h := frightB_iff z y HZ1.out HZ2.out HN.out HZ4.out
          by_cases hv : frightB r s = true
          · rw [hv]
            obtain ⟨q, h1, h2⟩ := h.1 hv
            rw [eq_comm, decide_eq_true_eq, h1, h2, ben_und, Rat.num_divInt_den]
            exact ⟨rfl, rfl⟩
          · rw [Bool.not_eq_true] at hv
            rw [hv, eq_comm, decide_eq_false_iff_not]
            rintro ⟨h1, h2⟩
            rw [h.2 ⟨_, h1, h2⟩] at hv
            cases hv)
        have hlz : len z ≤ 1000 := by unfold len; rw [← HZ2.out, HGK.out]; omega
        have hly : len y ≤ 1000 := by unfold len; rw [← HZ4.out, HGL.out]; omega
        have hlb : len (ben y) ≤ 1000 := by
          unfold ben
          split
          · exact Nat.le_trans (dg_len BB2 (show (1 : Nat) < BB ^ 1 by decide)) (by decide)
          · exact hly
        generalize hv : decide (z = (Rat.divInt z (ben y)).num ∧ y = und (Rat.divInt z (ben y))) = vv at HQ
        have HVV := hide hv
        clear hv
        have dz : Dm z := dm_len (by omega)
        have db : Dm (ben y) := dm_len (by omega)
        have dn : dlen (Rat.divInt z (ben y)).num ≤ 100000000000 := dz.le (divInt_num_le _ _)
        have dd : dlen ((Rat.divInt z (ben y)).den : Int) ≤ 100000000000 := db.le (by
          have h : ben y ≠ 0 := by unfold ben; split <;> omega
          simpa using divInt_den_le (x := z) h)
        go_wp2_with fail
        refine (ROf2_any w2 (FrV.mk hiz hiy) (by omega) (by omega)).mono ?_
        rintro e w3 ⟨f, rfl, hf, hb3⟩
        obtain ⟨fn, fa, fl, fk, fm, fb, fi, fj, rfl, hf1, hf2⟩ := RFrV.parts hf
        replace bx := bx.below hb3 bx.lt
        replace sb := sb.trans (hb3.mono sb.size)
        replace hiz := hiz.below hb3 (Nat.le_refl _)
        replace hiy := hiy.below hb3 (Nat.le_refl _)
        clear x0 x1 x2 x3 hb3 hf
        obtain ⟨w4, hw4⟩ : ∃ w4, w3.alloc (.cells #[.bool fn, .slice fa fl fk, .bool fm, .slice fb fi fj] 64) = w4 := ⟨_, rfl⟩
        have bf : Blk w4 w3.heap.size 64 #[.bool fn, .slice fa fl fk, .bool fm, .slice fb fi fj] := by rw [← hw4]; exact Blk.new _ _ _
        have hb4 : Below w3.heap.size w3 w4 := by rw [← hw4]; exact (Below.refl _ _).alloc (Nat.le_refl _) _
        replace bx := bx.below hb4 bx.lt
        replace sb := sb.trans (hb4.mono sb.size)
        replace hiz := hiz.below hb4 (Nat.le_refl _)
        replace hiy := hiy.below hb4 (Nat.le_refl _)
        replace hf1 := hf1.below hb4 (Nat.le_refl _)
        replace hf2 := hf2.below hb4 (Nat.le_refl _)
        have HW := hide hw4
        clear hw4 hb4
        go_upto_region 4 with (fail)
        rw [HW.out]
        clear HW
        generalize w3.heap.size = G at bf ⊢
        obtain ⟨x0, x1, x2, x3, -⟩ := bx.c4
        obtain ⟨f0, f1, f2, f3, -⟩ := bf.c4
        have sb1 := sb.drew
        have hb0 := (Below.refl w4.heap.size w4).drew
        go_region_held3 (fun w' => w'.cell? ⟨w.heap.size, 0, none⟩ = some (.bool r.neg) ∧ w'.cell? ⟨w.heap.size, 1, none⟩ = some (.slice r.at_ k r.cap) ∧ w'.cell? ⟨w.heap.size, 2, none⟩ = some (.bool false) ∧ w'.cell? ⟨w.heap.size, 3, none⟩ = some (.slice s.at_ l s.cap) ∧ w'.cell? ⟨G, 0, none⟩ = some (.bool fn) ∧ w'.cell? ⟨G, 1, none⟩ = some (.slice fa fl fk) ∧ w'.cell? ⟨G, 2, none⟩ = some (.bool fm) ∧ w'.cell? ⟨G, 3, none⟩ = some (.slice fb fi fj) ∧ Below w4.heap.size w4 w')
          (first | with_reducible exact keepZ8 (by assumption) hb1 | go_keep)
          (first
            | (go_at_call_of 43 (Value.agg #[.bool fn, .slice fa fl fk]); (with_reducible refine (RMake2_any _ (hf1.below (by go_split_ands; assumption) (Nat.le_refl _)) (hf2.below (by go_split_ands; assumption) (Nat.le_refl _)) dz db).mono ?_); rintro e wN ⟨rA, rfl, hA, hb1⟩)
            | (go_at_call_of 42 rA; (with_reducible refine (RForm2_any _ hA dn dd).mono ?_); rintro e wN ⟨rB, rfl, hB, hb1⟩)
            | (go_at_call_of 40 rB; (with_reducible refine (Same2_any _ (FrV.mk (hiz.below (by go_split_ands; assumption) (Nat.le_refl _)) (hiy.below (by go_split_ands; assumption) (Nat.le_refl _))) hB.fr sz sy).mono ?_); rintro e wN ⟨rfl, hb1⟩; rw [HVV.out]))
        rename_i hS
        have hfin := sb.trans (hS.2.2.2.2.2.2.2.2.mono sb.size)
        go_wp2_with fail
        rw [← HP.out]
        exact ⟨by rw [HQ.out]; rfl, hfin⟩
end Go.Proofs.YthpibilefdmemaaDoor
