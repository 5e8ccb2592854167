/- The reference's token, one kind of first byte. -/
import Derived.Test.YtajlibegalbbmaaDoorRefTok
namespace Go.Proofs.YtajlibegalbbmaaDoor
open Go.RowKit
section
variable {w : World} {ta : Option Addr} {cap : Nat} {bs : List UInt8} {p : Nat}

set_option maxRecDepth 100000 in
set_option maxHeartbeats 3200000 in
theorem rtok_bar (ht : Txt w w.heap.size ta bs) (hfit : bs.length ≤ cap) (hmax : bs.length ≤ 140737488351232) (hp : p < bs.length) (hc : bs[p].toNat = 124) :
    Calls Tryd.prog 38 #[.slice ta bs.length cap, .int .i64 (p : Int)] w (RTokPost w p (barT (bs.drop p))) := by
  generalize hP : RTokPost w p (barT (bs.drop p)) = Post
  have HP := hide hP
  clear hP
  obtain ⟨b, off, rfl, hbR, hb⟩ := ht.byte hp
  generalize bs[p] = c at hb hc
  have e124 : ((c.toNat : Int) == 124) = true := by simp [hc]
  have hdg : digitB c = false := by simp [digitB, hc]
  have n40 : ((c.toNat : Int) == 40) = false := by simp; omega
  have n41 : ((c.toNat : Int) == 41) = false := by simp; omega
  have n35 : ((c.toNat : Int) == 35) = false := by simp; omega
  have n34 : ((c.toNat : Int) == 34) = false := by simp; omega
  clear hc
  go_enter Tryd.func38, Tryd.ntmps38
  go_upto_block 8 with (go_at_call 58; refine (rdigit_any _ _).mono ?_; rintro e w' ⟨rfl, rfl⟩)
  have s : Rs w (some ⟨b, off, none⟩) bs 3 [] p ((w.alloc (.cells zeroTok 23)).alloc (.cells #[.int .i64 3, .string ⟨#[]⟩, .int .i64 (p : Int)] 23)) := Rs.start ht 3 [] p
  generalize hW : (w.alloc (.cells zeroTok 23)).alloc (.cells #[.int .i64 3, .string ⟨#[]⟩, .int .i64 (p : Int)] 23) = W7 at s ⊢
  clear hW
  obtain ⟨⟨a0, a1, a2, af⟩, c0, c1, c2, cf⟩ := s.facts
  go_cut [9] from 278 to 304 (fun v wc => v = .int .i64 (((p + 1) + cnt barB (bs.drop (p + 1)) : Nat) : Int) ∧ W7 = wc)
  case first =>
    go_wp2_with fail
    go_loopg [9] (bs.length - (p + 1)) (fun k v wr => SpanRel W7 barB bs (p + 1) k v wr)
    case atStart => exact ⟨p + 1, rfl, by go_num, rfl, Nat.le_refl _, by omega, fun i h1 h2 => by omega⟩
    case round =>
      obtain ⟨j, hk, rfl, rfl, haj, hjl, hq⟩ := hrel
      have HK := hide hk
      have HA := hide hq
      clear hk hq
      rcases Nat.lt_or_ge j bs.length with hlt | hge
      · obtain ⟨b', off', hbe, _, hb'⟩ := s.txt.byte hlt
        injection hbe with hbe
        injection hbe with hbe hoe
        subst hbe hoe
        have hi := isAt_lt (q := barB) hlt
        generalize bs[j] = c' at hb' hi
        have HI := hide hi
        clear hi
        have hcs : textB c' = false ∨ (textB c' = true ∧ c'.toNat = 92) ∨ (textB c' = true ∧ c'.toNat = 124) ∨ (textB c' = true ∧ c'.toNat ≠ 92 ∧ c'.toNat ≠ 124) := by
          cases textB c'
          · exact .inl rfl
          · simp
            omega
        rcases hcs with h | h | h | h
        · have hpc : barB c' = false := by simp [barB, h]
          have HS := hide hpc
          clear hpc
          go_wp2_with (go_at_call 61; refine (rplain_any _ _).mono ?_; rintro e w' ⟨rfl, rfl⟩)
          go_meet
          exact ⟨by rw [(cnt_upto haj hjl HA.out (HI.out.trans HS.out)).1], rfl⟩
        · have e1 : ((c'.toNat : Int) != 92) = false := by simp [h.2]
          have hpc : barB c' = false := by simp [barB, h.2]
          replace h := h.1
          have HS := hide hpc
          clear hpc
          go_wp2_with (go_at_call 61; refine (rplain_any _ _).mono ?_; rintro e w' ⟨rfl, rfl⟩)
          go_meet
          exact ⟨by rw [(cnt_upto haj hjl HA.out (HI.out.trans HS.out)).1], rfl⟩
        · have e1 : ((c'.toNat : Int) != 92) = true := by simp [h.2]
          have e2 : ((c'.toNat : Int) != 124) = false := by simp [h.2]
          have hpc : barB c' = false := by simp [barB, h.2]
          replace h := h.1
          have HS := hide hpc
          clear hpc
          go_wp2_with (go_at_call 61; refine (rplain_any _ _).mono ?_; rintro e w' ⟨rfl, rfl⟩)
          go_meet
          exact ⟨by rw [(cnt_upto haj hjl HA.out (HI.out.trans HS.out)).1], rfl⟩
        · have e1 : ((c'.toNat : Int) != 92) = true := by simp; omega
          have e2 : ((c'.toNat : Int) != 124) = true := by simp; omega
          have hpc : barB c' = true := by simp [barB, h.1, h.2.1, h.2.2]
          replace h := h.1
          have HS := hide hpc
          clear hpc
          go_wp2_with (go_at_call 61; refine (rplain_any _ _).mono ?_; rintro e w' ⟨rfl, rfl⟩)
          have hk := HK.out
          go_roundg (bs.length - (j + 1))
          case measure => omega
          case rel => exact ⟨j + 1, rfl, by go_num, rfl, by omega, by omega, fun i h1 h2 => by
            rcases Nat.lt_or_ge i j with h | h
            · exact HA.out i h1 h
            · obtain rfl : i = j := by omega
              exact HI.out.trans HS.out⟩
      · go_wp2_with (go_at_call 61; refine (rplain_any _ _).mono ?_; rintro e w' ⟨rfl, rfl⟩)
        go_meet
        exact ⟨by rw [(cnt_upto haj hjl HA.out (isAt_ge hge)).1], rfl⟩
  case rest =>
    obtain ⟨rfl, rfl⟩ := hcut
    have hjl : p + 1 + cnt barB (bs.drop (p + 1)) ≤ bs.length := by
      have h1 : cnt barB (bs.drop (p + 1)) ≤ (bs.drop (p + 1)).length := by unfold cnt; exact (List.takeWhile_sublist _).length_le
      rw [List.length_drop] at h1
      omega
    generalize hj : p + 1 + cnt barB (bs.drop (p + 1)) = j at hjl
    have hpj : p + (1 + cnt barB (bs.drop (p + 1))) = j := by omega
    have HJ := hide hpj
    clear hj
    have hpj' : p + 1 ≤ j := by omega
    clear hpj
    rcases Nat.lt_or_ge j bs.length with hlt | hge
    · have hne : ((j : Int) == (bs.length : Int)) = false := by simp; omega
      obtain ⟨b', off', hbe, _, hb'⟩ := s.txt.byte hlt
      injection hbe with hbe
      injection hbe with hbe hoe
      subst hbe hoe
      have hi := isAt_lt (q := pipeB) hlt
      generalize bs[j] = c' at hb' hi
      by_cases h124 : c'.toNat = 124
      · have e1 : ((c'.toNat : Int) != 124) = false := by simp [h124]
        have hi' : isAt pipeB bs j = true := by rw [hi]; simp [pipeB, h124]
        have HI := hide hi'
        clear hi hi' h124
        have htk : (bs.drop (p + 1)).takeWhile barB = (bs.drop (p + 1)).take (j - (p + 1)) := by
          have h := HJ.out
          rw [show j - (p + 1) = cnt barB (bs.drop (p + 1)) by omega]
          exact takeWhile_take _ _
        have HTK := hide htk
        clear htk
        have hs := fun w => run_cut w (some ⟨b, off, none⟩) bs.length cap (p + 1) j ((p : Int) + 1) (j : Int) (by omega) rfl (by omega) (by omega)
        have hcv := txt_cut s.txt (p := p + 1) (q := j) (cap := cap) (by omega) (by omega) hfit (cap - (p + 1))
        have s' := s.text ((bs.drop (p + 1)).take (j - (p + 1)))
        go_wp2_with fail
        refine bodyPost_ret (v := .tuple #[tokV 3 ((bs.drop (p + 1)).take (j - (p + 1))) p, .int .i64 ((j + 1 : Nat) : Int), .int .i64 (-1)]) (by simp [results, Tryd.results38, tokV, go_sem, a0, a1, a2]) rfl ?_
        rw [← HP.out]
        exact rpost_ok (n := 1 + cnt barB (bs.drop (p + 1)) + 1) (by unfold barT; rw [isAt_next, List.drop_drop, HJ.out, HI.out, HTK.out]; rfl) (by have := HJ.out; omega) (s'.done _ _ _)
      · have e1 : ((c'.toNat : Int) != 124) = true := by simp; omega
        have hi' : isAt pipeB bs j = false := by rw [hi]; simp [pipeB, h124]
        have HI := hide hi'
        clear hi hi' h124
        go_wp2_with fail
        refine bodyPost_ret (v := .tuple #[tokV 3 ([]) p, .int .i64 0, .int .i64 (j : Int)]) (by simp [results, Tryd.results38, tokV, go_sem, a0, a1, a2]) rfl ?_
        rw [← HP.out]
        exact rpost_err (o := 1 + cnt barB (bs.drop (p + 1))) (by unfold barT; rw [isAt_next, List.drop_drop, HJ.out, HI.out]; rfl) HJ.out.symm (s.done _ _ _)
    · have hne : ((j : Int) == (bs.length : Int)) = true := by simp; omega
      go_wp2_with fail
      refine bodyPost_ret (v := .tuple #[tokV 3 ([]) p, .int .i64 0, .int .i64 (j : Int)]) (by simp [results, Tryd.results38, tokV, go_sem, a0, a1, a2]) rfl ?_
      rw [← HP.out]
      exact rpost_err (o := 1 + cnt barB (bs.drop (p + 1))) (by unfold barT; rw [isAt_next, List.drop_drop, HJ.out, isAt_ge hge]; rfl) HJ.out.symm (s.done _ _ _)
end
end Go.Proofs.YtajlibegalbbmaaDoor
