/- The reference's token, one kind of first byte. -/
import Derived.Test.YtajlibegalbbmaaDoorRefTok
namespace Go.Proofs.YtajlibegalbbmaaDoor
open Go.RowKit
section
variable {w : World} {ta : Option Addr} {cap : Nat} {bs : List UInt8} {p : Nat}

set_option maxRecDepth 100000 in
set_option maxHeartbeats 3200000 in
theorem rtok_bits (ht : Txt w w.heap.size ta bs) (hfit : bs.length ≤ cap) (hmax : bs.length ≤ 140737488351232) (hp : p < bs.length) (hc : bs[p].toNat = 35) :
    Calls Tryd.prog 38 #[.slice ta bs.length cap, .int .i64 (p : Int)] w (RTokPost w p (bitsT (bs.drop p))) := by
  generalize hP : RTokPost w p (bitsT (bs.drop p)) = Post
  have HP := hide hP
  clear hP
  obtain ⟨b, off, rfl, hbR, hb⟩ := ht.byte hp
  generalize bs[p] = c at hb hc
  have e35 : ((c.toNat : Int) == 35) = true := by simp [hc]
  have hdg : digitB c = false := by simp [digitB, hc]
  have n40 : ((c.toNat : Int) == 40) = false := by simp; omega
  have n41 : ((c.toNat : Int) == 41) = false := by simp; omega
  clear hc
  rcases Nat.lt_or_ge (p + 1) bs.length with hlt | hge
  · have hne : ((p : Int) + 1 == (bs.length : Int)) = false := by simp; omega
    obtain ⟨b', off', hbe, _, hb1⟩ := ht.byte hlt
    injection hbe with hbe
    injection hbe with hbe hoe
    subst hbe hoe
    have hix := isAt_lt (q := xB) hlt
    have hib := isAt_lt (q := bB) hlt
    generalize bs[p + 1] = d at hb1 hix hib
    by_cases h120 : d.toNat = 120
    · have e1 : ((d.toNat : Int) != 120) = false := by simp [h120]
      have e2 : ((d.toNat : Int) == 98) = false := by simp; omega
      have hd : isAt xB bs (p + 1) = true := by rw [hix]; simp [xB, h120]
      have hsp : bitsT (bs.drop p) = bitsOf (bs.drop p) 7 hexB := by unfold bitsT; rw [isAt_next, hd]; rfl
      have HSP := hide hsp
      clear hsp hix hib h120
      have hlt2 := isAt_true_lt hd
      go_enter Tryd.func38, Tryd.ntmps38
      go_upto_block 4 with (go_at_call 58; refine (rdigit_any _ _).mono ?_; rintro e w' ⟨rfl, rfl⟩)
      have s : Rs w (some ⟨b, off, none⟩) bs 7 [] p ((w.alloc (.cells zeroTok 23)).alloc (.cells #[.int .i64 7, .string ⟨#[]⟩, .int .i64 (p : Int)] 23)) := Rs.start ht 7 [] p
      generalize hW : (w.alloc (.cells zeroTok 23)).alloc (.cells #[.int .i64 7, .string ⟨#[]⟩, .int .i64 (p : Int)] 23) = W7 at s ⊢
      clear hW
      obtain ⟨⟨a0, a1, a2, af⟩, c0, c1, c2, cf⟩ := s.facts
      go_cut [9] from 160 to 196 (fun v wc => v = .int .i64 (((p + 2) + cnt hexB (bs.drop (p + 2)) : Nat) : Int) ∧ W7 = wc)
      case first =>
        go_wp2_with fail
        go_loopg [9] (bs.length - (p + 2)) (fun k v wr => SpanRel W7 hexB bs (p + 2) k v wr)
        case atStart => exact ⟨p + 2, rfl, by go_num, rfl, Nat.le_refl _, by omega, fun i h1 h2 => by omega⟩
        case round =>
          obtain ⟨j, hk, rfl, rfl, haj, hjl, hq⟩ := hrel
          have HK := hide hk
          have HA := hide hq
          clear hk hq
          rcases Nat.lt_or_ge j bs.length with hlt | hge
          · obtain ⟨b', off', hbe, _, hb'⟩ := s.txt.byte hlt
            injection hbe with hbe
            injection hbe with hbe hoe
            subst hbe hoe
            have hi := isAt_lt (q := hexB) hlt
            generalize bs[j] = c' at hb' hi
            have HI := hide hi
            clear hi
            cases hs : hexB c'
            · have hpc := hs
              have HS := hide hpc
              clear hpc
              go_wp2_with (go_at_call 60; refine (rhex_any _ _).mono ?_; rintro e w' ⟨rfl, rfl⟩)
              go_meet
              exact ⟨by rw [(cnt_upto haj hjl HA.out (HI.out.trans HS.out)).1], rfl⟩
            · have hpc := hs
              have HS := hide hpc
              clear hpc
              go_wp2_with (go_at_call 60; refine (rhex_any _ _).mono ?_; rintro e w' ⟨rfl, rfl⟩)
              have hk := HK.out
              go_roundg (bs.length - (j + 1))
              case measure => omega
              case rel => exact ⟨j + 1, rfl, by go_num, rfl, by omega, by omega, fun i h1 h2 => by
                rcases Nat.lt_or_ge i j with h | h
                · exact HA.out i h1 h
                · obtain rfl : i = j := by omega
                  exact HI.out.trans HS.out⟩
          · go_wp2_with (go_at_call 60; refine (rhex_any _ _).mono ?_; rintro e w' ⟨rfl, rfl⟩)
            go_meet
            exact ⟨by rw [(cnt_upto haj hjl HA.out (isAt_ge hge)).1], rfl⟩
      case rest =>
        obtain ⟨rfl, rfl⟩ := hcut
        have hjl : p + 2 + cnt hexB (bs.drop (p + 2)) ≤ bs.length := by
          have h1 : cnt hexB (bs.drop (p + 2)) ≤ (bs.drop (p + 2)).length := by unfold cnt; exact (List.takeWhile_sublist _).length_le
          rw [List.length_drop] at h1
          omega
        generalize hj : p + 2 + cnt hexB (bs.drop (p + 2)) = j at hjl
        have hpj : p + (2 + cnt hexB (bs.drop (p + 2))) = j := by omega
        have HJ := hide hpj
        clear hj hpj
        have hpj : p + 2 ≤ j := by have := HJ.out; omega
        cases hq : isAt hexB bs (p + 2)
        · have hj2 : j = p + 2 := by
            have h := HJ.out
            have := cnt_zero hq
            omega
          have e3 : ((j : Int) == (p : Int) + 1 + 1) = true := by simp; omega
          have HJ2 := hide hj2
          clear hj2
          go_wp2_with fail
          refine bodyPost_ret (v := .tuple #[tokV 7 ([]) p, .int .i64 0, .int .i64 (j : Int)]) (by simp [results, Tryd.results38, tokV, go_sem, a0, a1, a2]) rfl ?_
          rw [← HP.out]
          exact rpost_err (o := 2) (by rw [HSP.out]; unfold bitsOf; rw [isAt_next, hq]; rfl) HJ2.out (s.done _ _ _)
        · have hj2 : p + 2 < j := by
            have h := HJ.out
            have := cnt_some hq
            omega
          have e3 : ((j : Int) == (p : Int) + 1 + 1) = false := by simp; omega
          have htk : (bs.drop (p + 2)).takeWhile hexB = (bs.drop (p + 2)).take (j - (p + 2)) := by
            have h := HJ.out
            rw [show j - (p + 2) = cnt hexB (bs.drop (p + 2)) by omega]
            exact takeWhile_take _ _
          have HTK := hide htk
          clear htk
          have hs := fun w => run_cut w (some ⟨b, off, none⟩) bs.length cap (p + 2) j ((p : Int) + 1 + 1) (j : Int) (by omega) rfl (by omega) (by omega)
          have hcv := txt_cut s.txt (p := p + 2) (q := j) (cap := cap) (by omega) (by omega) hfit (cap - (p + 2))
          have s' := s.text ((bs.drop (p + 2)).take (j - (p + 2)))
          rcases Nat.lt_or_ge j bs.length with hlt | hge
          · obtain ⟨b', off', hbe, _, hb'⟩ := s.txt.byte hlt
            injection hbe with hbe
            injection hbe with hbe hoe
            subst hbe hoe
            have hi := isAt_lt (q := symB) hlt
            generalize bs[j] = c' at hb' hi
            cases hsy : symB c'
            · rw [hsy] at hi
              have HI := hide hi
              clear hi
              go_wp2_with (go_at_call 59; refine (rinner_any _ _).mono ?_; rintro e w' ⟨rfl, rfl⟩)
              refine bodyPost_ret (v := .tuple #[tokV 7 ((bs.drop (p + 2)).take (j - (p + 2))) p, .int .i64 (j : Int), .int .i64 (-1)]) (by simp [results, Tryd.results38, tokV, go_sem, a0, a1, a2]) rfl ?_
              rw [← HP.out]
              exact rpost_ok (n := 2 + cnt hexB (bs.drop (p + 2))) (by rw [HSP.out]; unfold bitsOf; rw [isAt_next, hq, if_pos rfl, List.drop_drop, apart_no HJ.out HI.out, HTK.out]) HJ.out.symm (s'.done _ _ _)
            · rw [hsy] at hi
              have HI := hide hi
              clear hi
              go_wp2_with (go_at_call 59; refine (rinner_any _ _).mono ?_; rintro e w' ⟨rfl, rfl⟩)
              refine bodyPost_ret (v := .tuple #[tokV 7 ([]) p, .int .i64 0, .int .i64 (j : Int)]) (by simp [results, Tryd.results38, tokV, go_sem, a0, a1, a2]) rfl ?_
              rw [← HP.out]
              exact rpost_err (o := 2 + cnt hexB (bs.drop (p + 2))) (by rw [HSP.out]; unfold bitsOf; rw [isAt_next, hq, if_pos rfl, List.drop_drop, apart_yes HJ.out HI.out]) HJ.out.symm (s.done _ _ _)
          · have HI := hide (isAt_ge (q := symB) hge)
            go_wp2_with fail
            refine bodyPost_ret (v := .tuple #[tokV 7 ((bs.drop (p + 2)).take (j - (p + 2))) p, .int .i64 (j : Int), .int .i64 (-1)]) (by simp [results, Tryd.results38, tokV, go_sem, a0, a1, a2]) rfl ?_
            rw [← HP.out]
            exact rpost_ok (n := 2 + cnt hexB (bs.drop (p + 2))) (by rw [HSP.out]; unfold bitsOf; rw [isAt_next, hq, if_pos rfl, List.drop_drop, apart_no HJ.out HI.out, HTK.out]) HJ.out.symm (s'.done _ _ _)
    · by_cases h98 : d.toNat = 98
      · have e1 : ((d.toNat : Int) != 120) = true := by simp [h98]
        have e1' : ((d.toNat : Int) != 98) = false := by simp [h98]
        have e2 : ((d.toNat : Int) == 98) = true := by simp [h98]
        have hdx : isAt xB bs (p + 1) = false := by rw [hix]; simp [xB, h98]
        have hd : isAt bB bs (p + 1) = true := by rw [hib]; simp [bB, h98]
        have hsp : bitsT (bs.drop p) = bitsOf (bs.drop p) 8 binB := by unfold bitsT; rw [isAt_next, isAt_next, hdx, hd]; rfl
        have HSP := hide hsp
        clear hsp hix hib h98 h120 hdx
        have hlt2 := isAt_true_lt hd
        go_enter Tryd.func38, Tryd.ntmps38
        go_upto_block 4 with (go_at_call 58; refine (rdigit_any _ _).mono ?_; rintro e w' ⟨rfl, rfl⟩)
        have s : Rs w (some ⟨b, off, none⟩) bs 8 [] p ((w.alloc (.cells zeroTok 23)).alloc (.cells #[.int .i64 8, .string ⟨#[]⟩, .int .i64 (p : Int)] 23)) := Rs.start ht 8 [] p
        generalize hW : (w.alloc (.cells zeroTok 23)).alloc (.cells #[.int .i64 8, .string ⟨#[]⟩, .int .i64 (p : Int)] 23) = W7 at s ⊢
        clear hW
        obtain ⟨⟨a0, a1, a2, af⟩, c0, c1, c2, cf⟩ := s.facts
        go_cut [9] from 160 to 196 (fun v wc => v = .int .i64 (((p + 2) + cnt binB (bs.drop (p + 2)) : Nat) : Int) ∧ W7 = wc)
        case first =>
          go_wp2_with fail
          go_loopg [9] (bs.length - (p + 2)) (fun k v wr => SpanRel W7 binB bs (p + 2) k v wr)
          case atStart => exact ⟨p + 2, rfl, by go_num, rfl, Nat.le_refl _, by omega, fun i h1 h2 => by omega⟩
          case round =>
            obtain ⟨j, hk, rfl, rfl, haj, hjl, hq⟩ := hrel
            have HK := hide hk
            have HA := hide hq
            clear hk hq
            rcases Nat.lt_or_ge j bs.length with hlt | hge
            · obtain ⟨b', off', hbe, _, hb'⟩ := s.txt.byte hlt
              injection hbe with hbe
              injection hbe with hbe hoe
              subst hbe hoe
              have hi := isAt_lt (q := binB) hlt
              generalize bs[j] = c' at hb' hi
              have HI := hide hi
              clear hi
              rcases (show c'.toNat = 48 ∨ c'.toNat = 49 ∨ (c'.toNat ≠ 48 ∧ c'.toNat ≠ 49) by omega) with h | h | h
              · have e1 : ((c'.toNat : Int) == 48) = true := by simp [h]
                have e2 : ((c'.toNat : Int) == 49) = false := by simp [h]
                have hpc : binB c' = true := by simp [binB, h]
                clear h
                have HS := hide hpc
                clear hpc
                go_wp2_with fail
                have hk := HK.out
                go_roundg (bs.length - (j + 1))
                case measure => omega
                case rel => exact ⟨j + 1, rfl, by go_num, rfl, by omega, by omega, fun i h1 h2 => by
                  rcases Nat.lt_or_ge i j with h | h
                  · exact HA.out i h1 h
                  · obtain rfl : i = j := by omega
                    exact HI.out.trans HS.out⟩
              · have e1 : ((c'.toNat : Int) == 48) = false := by simp [h]
                have e2 : ((c'.toNat : Int) == 49) = true := by simp [h]
                have hpc : binB c' = true := by simp [binB, h]
                clear h
                have HS := hide hpc
                clear hpc
                go_wp2_with fail
                have hk := HK.out
                go_roundg (bs.length - (j + 1))
                case measure => omega
                case rel => exact ⟨j + 1, rfl, by go_num, rfl, by omega, by omega, fun i h1 h2 => by
                  rcases Nat.lt_or_ge i j with h | h
                  · exact HA.out i h1 h
                  · obtain rfl : i = j := by omega
                    exact HI.out.trans HS.out⟩
              · have e1 : ((c'.toNat : Int) == 48) = false := by simp; omega
                have e2 : ((c'.toNat : Int) == 49) = false := by simp; omega
                have hpc : binB c' = false := by simp [binB, h.1, h.2]
                clear h
                have HS := hide hpc
                clear hpc
                go_wp2_with fail
                go_meet
                exact ⟨by rw [(cnt_upto haj hjl HA.out (HI.out.trans HS.out)).1], rfl⟩
            · go_wp2_with fail
              go_meet
              exact ⟨by rw [(cnt_upto haj hjl HA.out (isAt_ge hge)).1], rfl⟩
        case rest =>
          obtain ⟨rfl, rfl⟩ := hcut
          have hjl : p + 2 + cnt binB (bs.drop (p + 2)) ≤ bs.length := by
            have h1 : cnt binB (bs.drop (p + 2)) ≤ (bs.drop (p + 2)).length := by unfold cnt; exact (List.takeWhile_sublist _).length_le
            rw [List.length_drop] at h1
            omega
          generalize hj : p + 2 + cnt binB (bs.drop (p + 2)) = j at hjl
          have hpj : p + (2 + cnt binB (bs.drop (p + 2))) = j := by omega
          have HJ := hide hpj
          clear hj hpj
          have hpj : p + 2 ≤ j := by have := HJ.out; omega
          cases hq : isAt binB bs (p + 2)
          · have hj2 : j = p + 2 := by
              have h := HJ.out
              have := cnt_zero hq
              omega
            have e3 : ((j : Int) == (p : Int) + 1 + 1) = true := by simp; omega
            have HJ2 := hide hj2
            clear hj2
            go_wp2_with fail
            refine bodyPost_ret (v := .tuple #[tokV 8 ([]) p, .int .i64 0, .int .i64 (j : Int)]) (by simp [results, Tryd.results38, tokV, go_sem, a0, a1, a2]) rfl ?_
            rw [← HP.out]
            exact rpost_err (o := 2) (by rw [HSP.out]; unfold bitsOf; rw [isAt_next, hq]; rfl) HJ2.out (s.done _ _ _)
          · have hj2 : p + 2 < j := by
              have h := HJ.out
              have := cnt_some hq
              omega
            have e3 : ((j : Int) == (p : Int) + 1 + 1) = false := by simp; omega
            have htk : (bs.drop (p + 2)).takeWhile binB = (bs.drop (p + 2)).take (j - (p + 2)) := by
              have h := HJ.out
              rw [show j - (p + 2) = cnt binB (bs.drop (p + 2)) by omega]
              exact takeWhile_take _ _
            have HTK := hide htk
            clear htk
            have hs := fun w => run_cut w (some ⟨b, off, none⟩) bs.length cap (p + 2) j ((p : Int) + 1 + 1) (j : Int) (by omega) rfl (by omega) (by omega)
            have hcv := txt_cut s.txt (p := p + 2) (q := j) (cap := cap) (by omega) (by omega) hfit (cap - (p + 2))
            have s' := s.text ((bs.drop (p + 2)).take (j - (p + 2)))
            rcases Nat.lt_or_ge j bs.length with hlt | hge
            · obtain ⟨b', off', hbe, _, hb'⟩ := s.txt.byte hlt
              injection hbe with hbe
              injection hbe with hbe hoe
              subst hbe hoe
              have hi := isAt_lt (q := symB) hlt
              generalize bs[j] = c' at hb' hi
              cases hsy : symB c'
              · rw [hsy] at hi
                have HI := hide hi
                clear hi
                go_wp2_with (go_at_call 59; refine (rinner_any _ _).mono ?_; rintro e w' ⟨rfl, rfl⟩)
                refine bodyPost_ret (v := .tuple #[tokV 8 ((bs.drop (p + 2)).take (j - (p + 2))) p, .int .i64 (j : Int), .int .i64 (-1)]) (by simp [results, Tryd.results38, tokV, go_sem, a0, a1, a2]) rfl ?_
                rw [← HP.out]
                exact rpost_ok (n := 2 + cnt binB (bs.drop (p + 2))) (by rw [HSP.out]; unfold bitsOf; rw [isAt_next, hq, if_pos rfl, List.drop_drop, apart_no HJ.out HI.out, HTK.out]) HJ.out.symm (s'.done _ _ _)
              · rw [hsy] at hi
                have HI := hide hi
                clear hi
                go_wp2_with (go_at_call 59; refine (rinner_any _ _).mono ?_; rintro e w' ⟨rfl, rfl⟩)
                refine bodyPost_ret (v := .tuple #[tokV 8 ([]) p, .int .i64 0, .int .i64 (j : Int)]) (by simp [results, Tryd.results38, tokV, go_sem, a0, a1, a2]) rfl ?_
                rw [← HP.out]
                exact rpost_err (o := 2 + cnt binB (bs.drop (p + 2))) (by rw [HSP.out]; unfold bitsOf; rw [isAt_next, hq, if_pos rfl, List.drop_drop, apart_yes HJ.out HI.out]) HJ.out.symm (s.done _ _ _)
            · have HI := hide (isAt_ge (q := symB) hge)
              go_wp2_with fail
              refine bodyPost_ret (v := .tuple #[tokV 8 ((bs.drop (p + 2)).take (j - (p + 2))) p, .int .i64 (j : Int), .int .i64 (-1)]) (by simp [results, Tryd.results38, tokV, go_sem, a0, a1, a2]) rfl ?_
              rw [← HP.out]
              exact rpost_ok (n := 2 + cnt binB (bs.drop (p + 2))) (by rw [HSP.out]; unfold bitsOf; rw [isAt_next, hq, if_pos rfl, List.drop_drop, apart_no HJ.out HI.out, HTK.out]) HJ.out.symm (s'.done _ _ _)
      · have e1 : ((d.toNat : Int) != 120) = true := by simp; omega
        have e1' : ((d.toNat : Int) != 98) = true := by simp; omega
        have hdx : isAt xB bs (p + 1) = false := by rw [hix]; simp [xB, h120]
        have hdb : isAt bB bs (p + 1) = false := by rw [hib]; simp [bB, h98]
        have HX := hide hdx
        have HB := hide hdb
        clear hix hib h98 h120 hdx hdb
        go_enter Tryd.func38, Tryd.ntmps38
        go_wp2_with (go_at_call 58; refine (rdigit_any _ _).mono ?_; rintro e w' ⟨rfl, rfl⟩)
        refine bodyPost_ret (v := .tuple #[tokV 0 [] p, .int .i64 0, .int .i64 ((p + 1 : Nat) : Int)]) (by simp [results, Tryd.results38, tokV, go_sem]) rfl ?_
        rw [← HP.out]
        exact rpost_err (o := 1) (by unfold bitsT; rw [isAt_next, isAt_next, HX.out, HB.out]; rfl) rfl (((Below.refl _ _).alloc (Nat.le_refl _) _).alloc (by simp) _)
  · have hne : ((p : Int) + 1 == (bs.length : Int)) = true := by simp; omega
    go_enter Tryd.func38, Tryd.ntmps38
    go_wp2_with (go_at_call 58; refine (rdigit_any _ _).mono ?_; rintro e w' ⟨rfl, rfl⟩)
    refine bodyPost_ret (v := .tuple #[tokV 0 [] p, .int .i64 0, .int .i64 ((p + 1 : Nat) : Int)]) (by simp [results, Tryd.results38, tokV, go_sem]) rfl ?_
    rw [← HP.out]
    exact rpost_err (o := 1) (by unfold bitsT; rw [isAt_next, isAt_next, isAt_ge hge, isAt_ge hge]; rfl) rfl (((Below.refl _ _).alloc (Nat.le_refl _) _).alloc (by simp) _)
end
end Go.Proofs.YtajlibegalbbmaaDoor
