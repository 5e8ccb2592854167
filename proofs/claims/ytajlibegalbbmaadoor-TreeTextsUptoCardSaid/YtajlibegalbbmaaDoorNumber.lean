/- The method that reads a numeral or a decimal. -/
import Derived.Test.YtajlibegalbbmaaDoorToks2
import Derived.Deep.DeepCutAuto
namespace Go.Proofs.YtajlibegalbbmaaDoor
open Go.RowKit

section
variable {w : World} {R : Nat} {ta : Option Addr} {cap : Nat} {bs : List UInt8} {p : Nat}

def NumA (w : World) (R : Nat) (ta : Option Addr) (cap : Nat) (bs : List UInt8) (p : Nat) (wc : World) : Prop :=
  (isAt (fun c => c.toNat == 48) bs p && isAt digitB bs (p + 1)) = false ∧ ∃ q, q + cnt digitB (bs.drop q) = p + cnt digitB (bs.drop p) ∧ St w R ta cap bs q wc

theorem cnt_digit {bs : List UInt8} {p : Nat} (h : isAt (fun c => c.toNat == 48) bs p = true) :
    p + 1 + cnt digitB (bs.drop (p + 1)) = p + cnt digitB (bs.drop p) := by
  have hp := isAt_true_lt h
  rw [isAt_lt hp] at h
  rw [drop_at hp]
  have hd : digitB bs[p] = true := by simp at h; simp [digitB, h]
  unfold cnt
  rw [List.takeWhile_cons, hd, if_pos rfl, List.length_cons]
  omega

theorem num_int {n j : Nat} (hz : (isAt (fun c => c.toNat == 48) bs p && isAt digitB bs (p + 1)) = false) (hn : cnt digitB (bs.drop p) = n) (hj : p + n = j) (hD : (isAt dotB bs j && isAt digitB bs (j + 1)) = false) :
    numT (bs.drop p) = apartT (bs.drop p) n (5, (bs.drop p).take n, n) := by
  subst hj
  have h0 := isAt_next (fun c => c.toNat == 48) bs p 0
  have h1 := isAt_next digitB bs p 1
  have h2 := isAt_next dotB bs p n
  have h3 := isAt_next digitB bs p (n + 1)
  unfold numT
  rw [hn, h0, h1, h2, h3, Nat.add_zero, hz, ← Nat.add_assoc, hD]
  rfl
theorem num_dec {n j : Nat} (hz : (isAt (fun c => c.toNat == 48) bs p && isAt digitB bs (p + 1)) = false) (hn : cnt digitB (bs.drop p) = n) (hj : p + n = j) (hD : (isAt dotB bs j && isAt digitB bs (j + 1)) = true) :
    numT (bs.drop p) = apartT (bs.drop p) (n + 1 + cnt digitB (bs.drop (j + 1))) (6, (bs.drop p).take (n + 1 + cnt digitB (bs.drop (j + 1))), n + 1 + cnt digitB (bs.drop (j + 1))) := by
  subst hj
  have h0 := isAt_next (fun c => c.toNat == 48) bs p 0
  have h1 := isAt_next digitB bs p 1
  have h2 := isAt_next dotB bs p n
  have h3 := isAt_next digitB bs p (n + 1)
  unfold numT
  rw [hn, h0, h1, h2, h3, Nat.add_zero, hz, ← Nat.add_assoc, hD, cnt_next, ← Nat.add_assoc]
  rfl
theorem apart_yes {n j : Nat} {r : Nat × List UInt8 × Nat} (hj : p + n = j) (h : isAt symB bs j = true) : apartT (bs.drop p) n r = .error n := by
  unfold apartT; rw [isAt_next, hj, h]; rfl
theorem apart_no {n j : Nat} {r : Nat × List UInt8 × Nat} (hj : p + n = j) (h : isAt symB bs j = false) : apartT (bs.drop p) n r = .ok r := by
  unfold apartT; rw [isAt_next, hj, h]; rfl

set_option maxRecDepth 100000 in
set_option maxHeartbeats 1600000 in
theorem number_any (h : Rd w R ta cap bs p) (hp : p < bs.length) : Calls Tryd.prog 44 #[.pointer (some ⟨R, 0, none⟩)] w (TokPost w R ta cap bs p (numT (bs.drop p))) := by
  have hlt := h.lt
  have h1 := h.cell1
  have hf := h.free 1
  have hfit := h.fit
  have hmax := h.top
  have s1 := St.start h
  generalize hP : TokPost w R ta cap bs p (numT (bs.drop p)) = Post
  have HP := hide hP
  clear hP
  have hw : IntKind.i64.wrap (p : Int) = (p : Int) := IntWalk.i64_in _ (by omega)
  go_enter Tryd.func44, Tryd.ntmps44
  go_upto_region 1 with (fail)
  clear h1 hf
  generalize hW : w.alloc (.cells zeroTok 23) = W1 at s1 ⊢
  clear hW
  obtain ⟨⟨h0, h1, hf⟩, c0, c1, c2, cf⟩ := s1.facts
  obtain ⟨b, off, rfl, hbR, hb⟩ := s1.rd.byte hp
  have hi := isAt_lt (q := fun c => c.toNat == 48) hp
  generalize bs[p] = c at hb hi
  go_upto_if 16 with (fail)
  go_cut [] (fun wc => NumA w R (some ⟨b, off, none⟩) cap bs p wc)
  case first =>
    by_cases hc : c.toNat = 48
    · have e1 : ((c.toNat : Int) == 48) = true := by simp [hc]
      have hi' : isAt (fun c => c.toNat == 48) bs p = true := by rw [hi]; simp [hc]
      have HI := hide hi'
      clear hi' hi hc
      have s2 := s1.move (q' := p + 1) (z := (p : Int) + 1) (by omega) (by omega)
      cases hd : isAt digitB bs (p + 1)
      · go_wp2_with fail
        refine (is_any s2.rd _ _ isDigit_any isDigit_enters).mono ?_
        rintro e w' ⟨rfl, m, rfl⟩
        go_wp2_with fail
        go_meet
        exact ⟨by simp [hd], p + 1, cnt_digit HI.out, s2.drewN m⟩
      · go_wp2_with fail
        refine (is_any s2.rd _ _ isDigit_any isDigit_enters).mono ?_
        rintro e w' ⟨rfl, m, rfl⟩
        go_wp2_with fail
        refine (fail_any (s2.drewN _).rd).mono ?_
        rintro e w' ⟨rfl, rfl⟩
        go_wp2_with fail
        refine ⟨rfl, ?_⟩
        rw [← HP.out]
        exact post_err (o := 1) (by unfold numT; rw [isAt_next, isAt_next, Nat.add_zero, HI.out, hd]; rfl) rfl (s2.drewN _).gr
    · have e1 : ((c.toNat : Int) == 48) = false := by simp; omega
      have hi' : isAt (fun c => c.toNat == 48) bs p = false := by rw [hi]; simp [hc]
      have HI := hide hi'
      clear hi' hi hc
      go_wp2_with fail
      go_meet
      exact ⟨by rw [HI.out]; rfl, p, rfl, s1⟩
  case rest =>
    obtain ⟨hz, q, hq, s2⟩ := hcut
    have HZ := hide hz
    have HQ := hide hq
    clear hz hq s1 h0 h1 hf c0 c1 c2 cf hi hb
    go_wp2_with fail
    refine (run_any s2.rd _ _ isDigit_any isDigit_enters).mono ?_
    rintro e w' ⟨rfl, hr, hg⟩
    have s3 := s2.after hr hg
    have hq1 : q + ((bs.drop q).takeWhile digitB).length = p + cnt digitB (bs.drop p) := HQ.out
    rw [hq1] at s3
    clear hr hg s2 hq1 HQ
    generalize hn : cnt digitB (bs.drop p) = n at s3
    have HN := hide hn
    generalize hj : p + n = j at s3
    have HJ := hide hj
    clear hn hj
    have hjl := s3.rd.le
    obtain ⟨⟨h0, h1, hf⟩, c0, c1, c2, cf⟩ := s3.facts
    go_upto_region 8 with (fail)
    go_cut [67] (fun v wc => v = .bool (isAt dotB bs j && isAt digitB bs (j + 1)) ∧ St w R (some ⟨b, off, none⟩) cap bs j wc)
    case first =>
      have hwj : IntKind.i64.wrap ((j : Int) + 1) = (j : Int) + 1 := IntWalk.i64_in _ (by omega)
      have htj : ((j : Int) + 1).toNat = j + 1 := by omega
      have h0j : 0 ≤ (j : Int) + 1 := by omega
      rcases Nat.lt_or_ge (j + 1) bs.length with hjl2 | hjl2
      · have hd : decide ((j : Int) + 1 < (bs.length : Int)) = true := by simp; omega
        have hjl3 : j < bs.length := by omega
        have hlt3 : (j : Int) + 1 < (bs.length : Int) := by omega
        obtain ⟨b1, off1, hbe, _, hb⟩ := s3.rd.byte hjl3
        obtain ⟨b2, off2, hbe2, _, hb2⟩ := s3.rd.byte hjl2
        injection hbe with hbe
        injection hbe with hbe hoe
        injection hbe2 with hbe2
        injection hbe2 with hbe2 hoe2
        subst hbe hoe hbe2 hoe2
        have hi := isAt_lt (q := dotB) hjl3
        have hi2 := isAt_lt (q := digitB) hjl2
        generalize bs[j] = c at hb hi
        generalize bs[j + 1] = d at hb2 hi2
        have HI := hide hi
        have HI2 := hide hi2
        clear hi hi2
        by_cases hc : c.toNat = 46
        · have e1 : ((c.toNat : Int) == 46) = true := by simp [hc]
          have e2 : dotB c = true := by simp [dotB, hc]
          have HE := hide e2
          clear hc e2
          go_quiet ((go_at_call 43; exact quiet_left (isDigit_any _ _)))
          go_wp2_with fail
          go_meet
          refine ⟨?_, s3.drewN _⟩
          rw [HI.out, HI2.out, HE.out]
          rfl
        · have e1 : ((c.toNat : Int) == 46) = false := by simp; omega
          have e2 : dotB c = false := by simp [dotB, hc]
          have HE := hide e2
          clear hc e2
          go_quiet (fail)
          go_wp2_with fail
          go_meet
          refine ⟨?_, s3.drewN _⟩
          rw [HI.out, HI2.out, HE.out]
          rfl
      · have hd : decide ((j : Int) + 1 < (bs.length : Int)) = false := by simp; omega
        have e2 : (isAt dotB bs j && isAt digitB bs (j + 1)) = false := by rw [isAt_ge hjl2]; simp
        have HE := hide e2
        clear e2
        go_quiet (fail)
        go_wp2_with fail
        go_meet
        refine ⟨?_, s3.drewN _⟩
        rw [HE.out]
    case rest =>
      obtain ⟨hv, s4⟩ := hcut
      clear s3 h0 h1 hf c0 c1 c2 cf
      cases hD : (isAt dotB bs j && isAt digitB bs (j + 1))
      · rw [hD] at hv
        subst hv
        go_wp2_with fail
        have hle := s4.rd.le
        obtain ⟨⟨h0, h1, hf⟩, c0, c1, c2, cf⟩ := s4.facts
        cases ha : isAt symB bs j
        · refine (apart_any s4.rd).mono ?_
          rw [ha]
          rintro e w2 ⟨rfl, m4, rfl⟩
          have hs := fun w => run_cut w (some ⟨b, off, none⟩) bs.length cap p j (p : Int) (j : Int) rfl rfl (by have := HJ.out; omega) (by omega)
          have hcv := fun n => txt_cut (w := wc.drewN n) (s4.drewN n).rd.txt (p := p) (q := j) (cap := cap) (by have := HJ.out; omega) (by omega) (by omega) (cap - p)
          go_wp2_with fail
          go_region
          go_wp2_with fail
          refine bodyPost_ret (v := tokV 5 ((bs.drop p).take (j - p)) 0) (by simp [results, Tryd.results44, go_sem, c0, c1, c2, tokV]) rfl ?_
          rw [← HP.out]
          have hj := HJ.out
          refine post_ok (n := n) (by rw [num_int HZ.out HN.out hj hD, apart_no hj ha, ← hj, Nat.add_sub_cancel_left]) ?_
          rw [hj]
          exact (s4.drewN _).done _ _ _
        · refine (apart_any s4.rd).mono ?_
          rw [ha]
          rintro e w2 ⟨rfl, m4, rfl⟩
          go_wp2_with fail
          refine ⟨rfl, ?_⟩
          rw [← HP.out]
          exact post_err (o := n) ((num_int HZ.out HN.out HJ.out hD).trans (apart_yes HJ.out ha)) (by have := HJ.out; omega) (s4.drewN _).gr
      · rw [hD] at hv
        subst hv
        have hjl2 : j + 1 < bs.length := by
          simp only [Bool.and_eq_true] at hD
          exact isAt_true_lt hD.2
        obtain ⟨⟨h0, h1, hf⟩, c0, c1, c2, cf⟩ := s4.facts
        have s5 := s4.move (q' := j + 1) (z := (j : Int) + 1) (by omega) (by omega)
        go_wp2_with fail
        refine (run_any s5.rd _ _ isDigit_any isDigit_enters).mono ?_
        rintro e w3 ⟨rfl, hr, hg⟩
        have s6 := s5.after hr hg
        clear hr hg s5 h0 h1 hf c0 c1 c2 cf s4
        generalize hm : ((bs.drop (j + 1)).takeWhile digitB).length = m at s6
        have hm' : cnt digitB (bs.drop (j + 1)) = m := hm
        generalize hk : j + 1 + m = k at s6
        have hk' : p + (n + 1 + m) = k := by have := HJ.out; omega
        have HM := hide hm'
        have HK := hide hk'
        clear hm hk hm' hk'
        have hle := s6.rd.le
        obtain ⟨⟨h0, h1, hf⟩, c0, c1, c2, cf⟩ := s6.facts
        go_wp2_with fail
        cases ha : isAt symB bs k
        · refine (apart_any s6.rd).mono ?_
          rw [ha]
          rintro e w2 ⟨rfl, m4, rfl⟩
          have hs := fun w => run_cut w (some ⟨b, off, none⟩) bs.length cap p k (p : Int) (k : Int) rfl rfl (by have := HK.out; omega) (by omega)
          have hcv := fun n => txt_cut (w := w3.drewN n) (s6.drewN n).rd.txt (p := p) (q := k) (cap := cap) (by have := HK.out; omega) (by omega) (by omega) (cap - p)
          go_wp2_with fail
          go_region
          go_wp2_with fail
          refine bodyPost_ret (v := tokV 6 ((bs.drop p).take (k - p)) 0) (by simp [results, Tryd.results44, go_sem, c0, c1, c2, tokV]) rfl ?_
          rw [← HP.out]
          have hj := HK.out
          have hd := num_dec HZ.out HN.out HJ.out hD
          rw [HM.out] at hd
          refine post_ok (n := n + 1 + m) (by rw [hd, apart_no hj ha, ← hj, Nat.add_sub_cancel_left]) ?_
          rw [hj]
          exact (s6.drewN _).done _ _ _
        · refine (apart_any s6.rd).mono ?_
          rw [ha]
          rintro e w2 ⟨rfl, m4, rfl⟩
          go_wp2_with fail
          refine ⟨rfl, ?_⟩
          rw [← HP.out]
          have hd := num_dec HZ.out HN.out HJ.out hD
          rw [HM.out] at hd
          exact post_err (o := n + 1 + m) (hd.trans (apart_yes HK.out ha)) HK.out.symm (s6.drewN _).gr
end
end Go.Proofs.YtajlibegalbbmaaDoor
