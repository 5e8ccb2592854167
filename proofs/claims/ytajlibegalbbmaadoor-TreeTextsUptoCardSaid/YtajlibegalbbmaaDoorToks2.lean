/- More methods that read a token: paren, bits, barred. -/
import Derived.Test.YtajlibegalbbmaaDoorToks
namespace Go.Proofs.YtajlibegalbbmaaDoor
open Go.RowKit

section
variable {w : World} {R : Nat} {ta : Option Addr} {cap : Nat} {bs : List UInt8} {p : Nat}

theorem isAt_true_lt {q : UInt8 → Bool} {bs : List UInt8} {p : Nat} (h : isAt q bs p = true) : p < bs.length := by
  rcases Nat.lt_or_ge p bs.length with h' | h'
  · exact h'
  · rw [isAt_ge h'] at h; cases h

theorem cnt_next (q : UInt8 → Bool) (bs : List UInt8) (p n : Nat) : cnt q ((bs.drop p).drop n) = cnt q (bs.drop (p + n)) := by rw [List.drop_drop]

theorem paren_any (h : Rd w R ta cap bs p) (hp : p < bs.length) : Calls Tryd.prog 42 #[.pointer (some ⟨R, 0, none⟩)] w (TokPost w R ta cap bs p (parenT (bs.drop p))) := by
  have hlt := h.lt
  have h1 := h.cell1
  have hf := h.free 1
  have hfit := h.fit
  have hmax := h.top
  have s1 := St.startMove h (p' := p + 1) (z := (p : Int) + 1) (by omega) (by omega)
  have hi : isAt (fun c => c.toNat == 40) (bs.drop p) 0 = (bs[p].toNat == 40) := by rw [isAt_drop, Nat.add_zero, isAt_lt hp]
  have HI := hide hi
  clear hi
  generalize hP : TokPost w R ta cap bs p (parenT (bs.drop p)) = Post
  have HP := hide hP
  clear hP
  go_enter Tryd.func42, Tryd.ntmps42
  go_wp2_with fail
  clear h1 hf
  generalize hW : (w.setCell ⟨R, 1, none⟩ (.int .i64 ((p : Int) + 1))).alloc (.cells zeroTok 23) = W1 at s1 ⊢
  clear hW
  obtain ⟨⟨h0, h1, hf⟩, c0, c1, c2, cf⟩ := s1.facts
  obtain ⟨b, off, rfl, hbR, hb⟩ := s1.rd.byte hp
  generalize bs[p] = c at hb HI
  have hw : IntKind.i64.wrap (p : Int) = (p : Int) := IntWalk.i64_in _ (by omega)
  by_cases hc : c.toNat = 40
  · have e1 : ((c.toNat : Int) == 40) = true := by simp [hc]
    have HC := hide hc
    clear hc
    go_quiet (fail)
    go_wp2_with fail
    refine bodyPost_ret (v := tokV 1 [40] 0) (by simp [results, Tryd.results42, go_sem, tokV, c0, c1, c2]) rfl ?_
    rw [← HP.out]
    exact post_ok (n := 1) (by unfold parenT; rw [HI.out]; simp [HC.out]) ((s1.drewN _).done _ _ _)
  · have e1 : ((c.toNat : Int) == 40) = false := by simp; omega
    have HC := hide hc
    clear hc
    go_quiet (fail)
    go_wp2_with fail
    refine bodyPost_ret (v := tokV 2 [41] 0) (by simp [results, Tryd.results42, go_sem, tokV, c0, c1, c2]) rfl ?_
    rw [← HP.out]
    exact post_ok (n := 1) (by unfold parenT; rw [HI.out]; simp [HC.out]) ((s1.drewN _).done _ _ _)

theorem bits_any (h : Rd w R ta cap bs p) (hp : p < bs.length) : Calls Tryd.prog 45 #[.pointer (some ⟨R, 0, none⟩)] w (TokPost w R ta cap bs p (bitsT (bs.drop p))) := by
  have hlt := h.lt
  have h1 := h.cell1
  have hf := h.free 1
  have hfit := h.fit
  have hmax := h.top
  have s1 := St.startMove h (p' := p + 1) (z := (p : Int) + 1) (by omega) (by omega)
  generalize hP : TokPost w R ta cap bs p (bitsT (bs.drop p)) = Post
  have HP := hide hP
  clear hP
  go_enter Tryd.func45, Tryd.ntmps45
  go_wp2_with fail
  clear h1 hf
  generalize hW : (w.setCell ⟨R, 1, none⟩ (.int .i64 ((p : Int) + 1))).alloc (.cells zeroTok 23) = W1 at s1 ⊢
  clear hW
  obtain ⟨⟨h0, h1, hf⟩, c0, c1, c2, cf⟩ := s1.facts
  cases hx : isAt xB bs (p + 1)
  · cases hb : isAt bB bs (p + 1)
    · refine (is_any s1.rd _ _ isX_any isX_enters).mono ?_
      rintro e w' ⟨rfl, m, rfl⟩
      go_wp2_with fail
      refine (is_any (s1.drewN m).rd _ _ isB_any isB_enters).mono ?_
      rintro e w' ⟨rfl, m', rfl⟩
      go_wp2_with fail
      refine (fail_any (s1.drewN _).rd).mono ?_
      rintro e w' ⟨rfl, rfl⟩
      go_wp2_with fail
      refine ⟨rfl, ?_⟩
      rw [← HP.out]
      exact post_err (by unfold bitsT; rw [isAt_next, isAt_next, hx, hb]; rfl) rfl (s1.drewN _).gr
    · have hlt2 := isAt_true_lt hb
      have hsp : bitsT (bs.drop p) = bitsOf (bs.drop p) 8 binB := by unfold bitsT; rw [isAt_next, isAt_next, hx, hb]; rfl
      have HSP := hide hsp
      clear hsp
      refine (is_any s1.rd _ _ isX_any isX_enters).mono ?_
      rintro e w' ⟨rfl, m, rfl⟩
      go_wp2_with fail
      refine (is_any (s1.drewN m).rd _ _ isB_any isB_enters).mono ?_
      rintro e w' ⟨rfl, m', rfl⟩
      go_wp2_with fail
      have s3 := (s1.drewN (m + m')).move (q' := p + 2) (z := (p : Int) + 1 + 1) (by omega) (by omega)
      generalize hW : (W1.drewN (m + m')).setCell ⟨R, 1, none⟩ (.int .i64 ((p : Int) + 1 + 1)) = W2 at s3 ⊢
      clear hW s1 h0 h1 hf c0 c1 c2 cf
      cases hq : isAt binB bs (p + 2)
      · refine (is_any s3.rd _ _ isBinary_any isBinary_enters).mono ?_
        rintro e w' ⟨rfl, m2, rfl⟩
        go_wp2_with fail
        refine (fail_any (s3.drewN _).rd).mono ?_
        rintro e w' ⟨rfl, rfl⟩
        go_wp2_with fail
        refine ⟨rfl, ?_⟩
        rw [← HP.out]
        exact post_err (o := 2) (by rw [HSP.out]; unfold bitsOf; rw [isAt_next, hq]; rfl) rfl (s3.drewN _).gr
      · refine (is_any s3.rd _ _ isBinary_any isBinary_enters).mono ?_
        rintro e w' ⟨rfl, m2, rfl⟩
        go_wp2_with fail
        refine (run_any (s3.drewN _).rd _ _ isBinary_any isBinary_enters).mono ?_
        rintro e w' ⟨rfl, hr, hg⟩
        have s4 := (s3.drewN _).after hr hg
        clear hr hg s3
        obtain ⟨-, c0, c1, c2, cf⟩ := s4.facts
        go_wp2_with fail
        cases ha : isAt symB bs (p + 2 + ((bs.drop (p + 2)).takeWhile binB).length)
        · refine (apart_any s4.rd).mono ?_
          rw [ha]
          rintro e w2 ⟨rfl, m4, rfl⟩
          go_wp2_with fail
          refine bodyPost_ret (v := tokV 8 ((bs.drop (p + 2)).takeWhile binB) 0) (by simp [results, Tryd.results45, go_sem, c0, c1, c2, tokV]) rfl ?_
          rw [← HP.out]
          refine post_ok (n := 2 + cnt binB (bs.drop (p + 2))) (by rw [HSP.out]; unfold bitsOf apartT; rw [isAt_next, hq, isAt_next, List.drop_drop, ← Nat.add_assoc]; unfold cnt; rw [ha]; rfl) ?_
          rw [← Nat.add_assoc]
          exact (s4.drewN _).done _ _ _
        · refine (apart_any s4.rd).mono ?_
          rw [ha]
          rintro e w2 ⟨rfl, m4, rfl⟩
          go_wp2_with fail
          refine ⟨rfl, ?_⟩
          rw [← HP.out]
          exact post_err (o := 2 + cnt binB (bs.drop (p + 2))) (by rw [HSP.out]; unfold bitsOf apartT; rw [isAt_next, hq, isAt_next, List.drop_drop, ← Nat.add_assoc]; unfold cnt; rw [ha]; rfl) (by unfold cnt; omega) (s4.drewN _).gr
  · have hlt2 := isAt_true_lt hx
    have hsp : bitsT (bs.drop p) = bitsOf (bs.drop p) 7 hexB := by unfold bitsT; rw [isAt_next, hx]; rfl
    have HSP := hide hsp
    clear hsp
    refine (is_any s1.rd _ _ isX_any isX_enters).mono ?_
    rintro e w' ⟨rfl, m, rfl⟩
    go_wp2_with fail
    have s3 := (s1.drewN m).move (q' := p + 2) (z := (p : Int) + 1 + 1) (by omega) (by omega)
    generalize hW : (W1.drewN m).setCell ⟨R, 1, none⟩ (.int .i64 ((p : Int) + 1 + 1)) = W2 at s3 ⊢
    clear hW s1 h0 h1 hf c0 c1 c2 cf
    cases hq : isAt hexB bs (p + 2)
    · refine (is_any s3.rd _ _ isHex_any isHex_enters).mono ?_
      rintro e w' ⟨rfl, m2, rfl⟩
      go_wp2_with fail
      refine (fail_any (s3.drewN _).rd).mono ?_
      rintro e w' ⟨rfl, rfl⟩
      go_wp2_with fail
      refine ⟨rfl, ?_⟩
      rw [← HP.out]
      exact post_err (o := 2) (by rw [HSP.out]; unfold bitsOf; rw [isAt_next, hq]; rfl) rfl (s3.drewN _).gr
    · refine (is_any s3.rd _ _ isHex_any isHex_enters).mono ?_
      rintro e w' ⟨rfl, m2, rfl⟩
      go_wp2_with fail
      refine (run_any (s3.drewN _).rd _ _ isHex_any isHex_enters).mono ?_
      rintro e w' ⟨rfl, hr, hg⟩
      have s4 := (s3.drewN _).after hr hg
      clear hr hg s3
      obtain ⟨-, c0, c1, c2, cf⟩ := s4.facts
      go_wp2_with fail
      cases ha : isAt symB bs (p + 2 + ((bs.drop (p + 2)).takeWhile hexB).length)
      · refine (apart_any s4.rd).mono ?_
        rw [ha]
        rintro e w2 ⟨rfl, m4, rfl⟩
        go_wp2_with fail
        refine bodyPost_ret (v := tokV 7 ((bs.drop (p + 2)).takeWhile hexB) 0) (by simp [results, Tryd.results45, go_sem, c0, c1, c2, tokV]) rfl ?_
        rw [← HP.out]
        refine post_ok (n := 2 + cnt hexB (bs.drop (p + 2))) (by rw [HSP.out]; unfold bitsOf apartT; rw [isAt_next, hq, isAt_next, List.drop_drop, ← Nat.add_assoc]; unfold cnt; rw [ha]; rfl) ?_
        rw [← Nat.add_assoc]
        exact (s4.drewN _).done _ _ _
      · refine (apart_any s4.rd).mono ?_
        rw [ha]
        rintro e w2 ⟨rfl, m4, rfl⟩
        go_wp2_with fail
        refine ⟨rfl, ?_⟩
        rw [← HP.out]
        exact post_err (o := 2 + cnt hexB (bs.drop (p + 2))) (by rw [HSP.out]; unfold bitsOf apartT; rw [isAt_next, hq, isAt_next, List.drop_drop, ← Nat.add_assoc]; unfold cnt; rw [ha]; rfl) (by unfold cnt; omega) (s4.drewN _).gr
theorem barred_any (h : Rd w R ta cap bs p) (hp : p < bs.length) : Calls Tryd.prog 48 #[.pointer (some ⟨R, 0, none⟩)] w (TokPost w R ta cap bs p (barT (bs.drop p))) := by
  have hlt := h.lt
  have h1 := h.cell1
  have hf := h.free 1
  have hfit := h.fit
  have hmax := h.top
  have s1 := St.startMove h (p' := p + 1) (z := (p : Int) + 1) (by omega) (by omega)
  generalize hP : TokPost w R ta cap bs p (barT (bs.drop p)) = Post
  have HP := hide hP
  clear hP
  go_enter Tryd.func48, Tryd.ntmps48
  go_wp2_with fail
  clear h1 hf
  generalize hW : (w.setCell ⟨R, 1, none⟩ (.int .i64 ((p : Int) + 1))).alloc (.cells zeroTok 23) = W1 at s1 ⊢
  clear hW
  obtain ⟨⟨h0, h1, hf⟩, c0, c1, c2, cf⟩ := s1.facts
  refine (run_any s1.rd _ _ isInBars_any isInBars_enters).mono ?_
  rintro e w' ⟨rfl, hr, hg⟩
  have s2 := s1.after hr hg
  clear hr hg s1 h0 h1 hf c0 c1 c2 cf
  obtain ⟨⟨h0, h1, hf⟩, c0, c1, c2, cf⟩ := s2.facts
  generalize hq : p + 1 + ((bs.drop (p + 1)).takeWhile barB).length = q at s2 h1
  have hq' : p + (1 + cnt barB (bs.drop (p + 1))) = q := by rw [← hq]; unfold cnt; omega
  have HQ := hide hq'
  clear hq hq'
  have hle := s2.rd.le
  generalize ht : (bs.drop (p + 1)).takeWhile barB = t
  have HT := hide ht
  clear ht
  rcases Nat.lt_or_ge q bs.length with hql | hql
  · obtain ⟨b, off, rfl, hbR, hb⟩ := s2.rd.byte hql
    have hi := isAt_lt (q := pipeB) hql
    generalize bs[q] = c at hb hi
    have HI := hide hi
    clear hi
    have hd : decide (bs.length ≤ q) = false := by simpa using hql
    by_cases hc : c.toNat = 124
    · have e1 : ((c.toNat : Int) != 124) = false := by simp [hc]
      have HC := hide hc
      clear hc
      go_wp2_with fail
      go_quiet (fail)
      go_wp2_with fail
      have s3 := (s2.drewN nq).move (q' := q + 1) (z := (q : Int) + 1) (by omega) (by omega)
      refine bodyPost_ret (v := tokV 3 t 0) (by simp [results, Tryd.results48, go_sem, c0, c1, c2, tokV]) rfl ?_
      rw [← HP.out]
      refine post_ok (n := 1 + cnt barB (bs.drop (p + 1)) + 1) (by unfold barT; rw [isAt_next, List.drop_drop, HQ.out, HI.out, HT.out]; simp [pipeB, HC.out]) ?_
      rw [← Nat.add_assoc, HQ.out]
      exact s3.done _ _ _
    · have e1 : ((c.toNat : Int) != 124) = true := by simp; omega
      have HC := hide hc
      clear hc
      go_wp2_with fail
      go_quiet (fail)
      go_wp2_with fail
      refine (fail_any (s2.drewN _).rd).mono ?_
      rintro e w' ⟨rfl, rfl⟩
      go_wp2_with fail
      refine ⟨rfl, ?_⟩
      rw [← HP.out]
      exact post_err (o := 1 + cnt barB (bs.drop (p + 1))) (by unfold barT; rw [isAt_next, List.drop_drop, HQ.out, HI.out]; simp [pipeB, HC.out]) HQ.out.symm (s2.drewN _).gr
  · have hd : decide (bs.length ≤ q) = true := by simpa using hql
    go_wp2_with fail
    go_quiet (fail)
    go_wp2_with fail
    refine (fail_any (s2.drewN _).rd).mono ?_
    rintro e w' ⟨rfl, rfl⟩
    go_wp2_with fail
    refine ⟨rfl, ?_⟩
    rw [← HP.out]
    exact post_err (o := 1 + cnt barB (bs.drop (p + 1))) (by unfold barT; rw [isAt_next, List.drop_drop, HQ.out, isAt_ge hql]; rfl) HQ.out.symm (s2.drewN _).gr
end
end Go.Proofs.YtajlibegalbbmaaDoor
