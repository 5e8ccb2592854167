/- The reference's token, one kind of first byte. -/
import Derived.Test.YtajlibegalbbmaaDoorRefTok
namespace Go.Proofs.YtajlibegalbbmaaDoor
open Go.RowKit
section
variable {w : World} {ta : Option Addr} {cap : Nat} {bs : List UInt8} {p : Nat}

set_option maxRecDepth 100000 in
set_option maxHeartbeats 3200000 in
theorem rtok_num (ht : Txt w w.heap.size ta bs) (hfit : bs.length ≤ cap) (hmax : bs.length ≤ 140737488351232) (hp : p < bs.length) (hc : digitB bs[p] = true) :
    Calls Tryd.prog 38 #[.slice ta bs.length cap, .int .i64 (p : Int)] w (RTokPost w p (numT (bs.drop p))) := by
  generalize hP : RTokPost w p (numT (bs.drop p)) = Post
  have HP := hide hP
  clear hP
  obtain ⟨b, off, rfl, hbR, hb⟩ := ht.byte hp
  have hi := isAt_lt (q := fun c => c.toNat == 48) hp
  have hr : 48 ≤ bs[p].toNat ∧ bs[p].toNat ≤ 57 := by simpa [digitB] using hc
  have hdp : 1 + cnt digitB (bs.drop (p + 1)) = cnt digitB (bs.drop p) := by
    rw [drop_at hp]
    unfold cnt
    rw [List.takeWhile_cons, hc, if_pos rfl, List.length_cons]
    omega
  have HDP := hide hdp
  clear hdp
  generalize bs[p] = c at hb hi hc hr
  have n40 : ((c.toNat : Int) == 40) = false := by simp; omega
  have n41 : ((c.toNat : Int) == 41) = false := by simp; omega
  clear hr
  have hz : (isAt (fun c => c.toNat == 48) bs p && isAt digitB bs (p + 1)) = true ∨ (isAt (fun c => c.toNat == 48) bs p && isAt digitB bs (p + 1)) = false := by cases (isAt (fun c => c.toNat == 48) bs p && isAt digitB bs (p + 1)) <;> simp
  rcases hz with hz | hz
  · simp only [Bool.and_eq_true] at hz
    have hlt1 := isAt_true_lt hz.2
    obtain ⟨b1, off1, hbe, _, hb1⟩ := ht.byte hlt1
    injection hbe with hbe
    injection hbe with hbe hoe
    subst hbe hoe
    have hd1 := hz.2
    rw [isAt_lt hlt1] at hd1
    have h48 := hz.1
    rw [hi] at h48
    have e1 : ((c.toNat : Int) == 48) = true := by simp at h48; simp [h48]
    generalize bs[p + 1] = d at hb1 hd1
    have HZ := hide hz
    clear hz h48 hi
    go_enter Tryd.func38, Tryd.ntmps38
    go_wp2_with (go_at_call 58; refine (rdigit_any _ _).mono ?_; rintro e w' ⟨rfl, rfl⟩)
    refine bodyPost_ret (v := .tuple #[tokV 0 [] p, .int .i64 0, .int .i64 ((p + 1 : Nat) : Int)]) (by simp [results, Tryd.results38, tokV, go_sem]) rfl ?_
    rw [← HP.out]
    exact rpost_err (o := 1) (by unfold numT; rw [isAt_next, isAt_next, Nat.add_zero, HZ.out.1, HZ.out.2]; rfl) rfl (((Below.refl _ _).alloc (Nat.le_refl _) _).alloc (by simp) _)
  · have HZ := hide hz
    clear hz
    go_enter Tryd.func38, Tryd.ntmps38
    go_upto_region 11 with (go_at_call 58; refine (rdigit_any _ _).mono ?_; rintro e w' ⟨rfl, rfl⟩)
    have s : Rs w (some ⟨b, off, none⟩) bs 0 [] p ((w.alloc (.cells zeroTok 23)).alloc (.cells #[.int .i64 0, .string ⟨#[]⟩, .int .i64 (p : Int)] 23)) := Rs.start ht 0 [] p
    generalize hW : (w.alloc (.cells zeroTok 23)).alloc (.cells #[.int .i64 0, .string ⟨#[]⟩, .int .i64 (p : Int)] 23) = W at s ⊢
    clear hW
    go_cut [54] from 40 to 54 (fun v wc => v = .bool false ∧ W = wc)
    case first =>
      by_cases h48 : c.toNat = 48
      · have e1 : ((c.toNat : Int) == 48) = true := by simp [h48]
        have hi' : isAt (fun c => c.toNat == 48) bs p = true := by rw [hi]; simp [h48]
        have hz := HZ.out
        rw [hi'] at hz
        simp only [Bool.true_and] at hz
        clear h48 hi' hi
        rcases Nat.lt_or_ge (p + 1) bs.length with hlt | hge
        · obtain ⟨b', off', hbe, _, hb'⟩ := s.txt.byte hlt
          injection hbe with hbe
          injection hbe with hbe hoe
          subst hbe hoe
          rw [isAt_lt hlt] at hz
          generalize bs[p + 1] = d at hb' hz
          go_wp2_with (go_at_call 58; refine (rdigit_any _ _).mono ?_; rintro e w' ⟨rfl, rfl⟩)
          go_meet
          exact ⟨rfl, rfl⟩
        · go_wp2_with fail
          go_meet
          exact ⟨rfl, rfl⟩
      · have e1 : ((c.toNat : Int) == 48) = false := by simp; omega
        go_wp2_with fail
        go_meet
        exact ⟨rfl, rfl⟩
    case rest =>
      obtain ⟨rfl, rfl⟩ := hcut
      obtain ⟨⟨a0, a1, a2, af⟩, c0, c1, c2, cf⟩ := s.facts
      clear hb hi
      go_upto_block 0 with (fail)
      replace s := s.kind 5
      generalize hW : W.setCell ⟨w.heap.size + 1, 0, none⟩ (.int .i64 5) = W5 at s ⊢
      clear hW a0 a1 a2 af c0 c1 c2 cf
      go_cut [9] from 58 to 70 (fun v wc => v = .int .i64 (((p + 1) + cnt digitB (bs.drop (p + 1)) : Nat) : Int) ∧ W5 = wc)
      case first =>
        go_wp2_with fail
        go_loopg [9] (bs.length - (p + 1)) (fun k v wr => SpanRel W5 digitB bs (p + 1) k v wr)
        case atStart => exact ⟨p + 1, rfl, by go_num, rfl, Nat.le_refl _, by omega, fun i h1 h2 => by omega⟩
        case round =>
          obtain ⟨j, hk, rfl, rfl, haj, hjl, hq⟩ := hrel
          have HK := hide hk
          have HA := hide hq
          clear hk hq
          rcases Nat.lt_or_ge j bs.length with hlt | hge
          · obtain ⟨b', off', hbe, _, hb'⟩ := s.txt.byte hlt
            injection hbe with hbe
            injection hbe with hbe hoe
            subst hbe hoe
            have hi := isAt_lt (q := digitB) hlt
            generalize bs[j] = c' at hb' hi
            have HI := hide hi
            clear hi
            cases hs : digitB c'
            · have hpc := hs
              have HS := hide hpc
              clear hpc
              go_wp2_with (go_at_call 58; refine (rdigit_any _ _).mono ?_; rintro e w' ⟨rfl, rfl⟩)
              go_meet
              exact ⟨by rw [(cnt_upto haj hjl HA.out (HI.out.trans HS.out)).1], rfl⟩
            · have hpc := hs
              have HS := hide hpc
              clear hpc
              go_wp2_with (go_at_call 58; refine (rdigit_any _ _).mono ?_; rintro e w' ⟨rfl, rfl⟩)
              have hk := HK.out
              go_roundg (bs.length - (j + 1))
              case measure => omega
              case rel => exact ⟨j + 1, rfl, by go_num, rfl, by omega, by omega, fun i h1 h2 => by
                rcases Nat.lt_or_ge i j with h | h
                · exact HA.out i h1 h
                · obtain rfl : i = j := by omega
                  exact HI.out.trans HS.out⟩
          · go_wp2_with (go_at_call 58; refine (rdigit_any _ _).mono ?_; rintro e w' ⟨rfl, rfl⟩)
            go_meet
            exact ⟨by rw [(cnt_upto haj hjl HA.out (isAt_ge hge)).1], rfl⟩
      case rest =>
        obtain ⟨rfl, rfl⟩ := hcut
        generalize hn : cnt digitB (bs.drop p) = n at HDP
        generalize hj : p + 1 + cnt digitB (bs.drop (p + 1)) = j
        have hpn : p + n = j := by have := HDP.out; omega
        have hjl : j ≤ bs.length := by
          rw [← hj]
          have h1 : cnt digitB (bs.drop (p + 1)) ≤ (bs.drop (p + 1)).length := by unfold cnt; exact (List.takeWhile_sublist _).length_le
          rw [List.length_drop] at h1
          omega
        have HN := hide hn
        have HJ := hide hpn
        clear hn hj hpn HDP
        obtain ⟨⟨a0, a1, a2, af⟩, c0, c1, c2, cf⟩ := s.facts
        go_upto_region 16 with (fail)
        go_cut [90] from 71 to 90 (fun v wc => v = .bool (isAt dotB bs j && isAt digitB bs (j + 1)) ∧ W5 = wc)
        case first =>
          rcases Nat.lt_or_ge (j + 1) bs.length with hlt | hge
          · have hlt0 : j < bs.length := by omega
            obtain ⟨b', off', hbe, _, hb'⟩ := s.txt.byte hlt
            injection hbe with hbe
            injection hbe with hbe hoe
            subst hbe hoe
            obtain ⟨b2, off2, hbe, _, hb2⟩ := s.txt.byte hlt0
            injection hbe with hbe
            injection hbe with hbe hoe
            subst hbe hoe
            have hi := isAt_lt (q := dotB) hlt0
            have hi2 := isAt_lt (q := digitB) hlt
            generalize bs[j] = x at hb2 hi
            generalize bs[j + 1] = y at hb' hi2
            have HI := hide hi
            have HI2 := hide hi2
            clear hi hi2
            by_cases h46 : x.toNat = 46
            · have e1 : ((x.toNat : Int) == 46) = true := by simp [h46]
              have e2 : dotB x = true := by simp [dotB, h46]
              have HE := hide e2
              clear h46 e2
              go_wp2_with (go_at_call 58; refine (rdigit_any _ _).mono ?_; rintro e w' ⟨rfl, rfl⟩)
              go_meet
              exact ⟨by rw [HI.out, HI2.out, HE.out]; rfl, rfl⟩
            · have e1 : ((x.toNat : Int) == 46) = false := by simp; omega
              have e2 : dotB x = false := by simp [dotB, h46]
              have HE := hide e2
              clear h46 e2
              go_wp2_with fail
              go_meet
              exact ⟨by rw [HI.out, HE.out]; rfl, rfl⟩
          · go_wp2_with fail
            go_meet
            exact ⟨by rw [isAt_ge hge]; simp, rfl⟩
        case rest =>
          obtain ⟨rfl, rfl⟩ := hcut
          cases hD : (isAt dotB bs j && isAt digitB bs (j + 1))
          · have hs := fun w => run_cut w (some ⟨b, off, none⟩) bs.length cap p j (p : Int) (j : Int) rfl rfl (by have := HJ.out; omega) (by omega)
            have hcv := txt_cut s.txt (p := p) (q := j) (cap := cap) (by have := HJ.out; omega) (by omega) hfit (cap - p)
            have s' := s.text ((bs.drop p).take (j - p))
            obtain ⟨⟨a0, a1, a2, af⟩, c0, c1, c2, cf⟩ := s.facts
            rcases Nat.lt_or_ge j bs.length with hlt | hge
            · obtain ⟨b', off', hbe, _, hb'⟩ := s.txt.byte hlt
              injection hbe with hbe
              injection hbe with hbe hoe
              subst hbe hoe
              have hi := isAt_lt (q := symB) hlt
              generalize bs[j] = c' at hb' hi
              cases hsy : symB c'
              · rw [hsy] at hi
                have HI := hide hi
                clear hi
                go_wp2_with (go_at_call 59; refine (rinner_any _ _).mono ?_; rintro e w' ⟨rfl, rfl⟩)
                refine bodyPost_ret (v := .tuple #[tokV 5 ((bs.drop p).take (j - p)) p, .int .i64 (j : Int), .int .i64 (-1)]) (by simp [results, Tryd.results38, tokV, go_sem, a0, a1, a2]) rfl ?_
                rw [← HP.out]
                exact rpost_ok (by rw [num_int HZ.out HN.out HJ.out hD, apart_no HJ.out HI.out, ← HJ.out, Nat.add_sub_cancel_left]) (HJ.out.symm) (s'.done _ _ _)
              · rw [hsy] at hi
                have HI := hide hi
                clear hi
                go_wp2_with (go_at_call 59; refine (rinner_any _ _).mono ?_; rintro e w' ⟨rfl, rfl⟩)
                refine bodyPost_ret (v := .tuple #[tokV 5 ((bs.drop p).take (j - p)) p, .int .i64 0, .int .i64 (j : Int)]) (by simp [results, Tryd.results38, tokV, go_sem, a0, a1, a2]) rfl ?_
                rw [← HP.out]
                exact rpost_err ((num_int HZ.out HN.out HJ.out hD).trans (apart_yes HJ.out HI.out)) (HJ.out.symm) (s'.done _ _ _)
            · have HI := hide (isAt_ge (q := symB) hge)
              go_wp2_with fail
              refine bodyPost_ret (v := .tuple #[tokV 5 ((bs.drop p).take (j - p)) p, .int .i64 (j : Int), .int .i64 (-1)]) (by simp [results, Tryd.results38, tokV, go_sem, a0, a1, a2]) rfl ?_
              rw [← HP.out]
              exact rpost_ok (by rw [num_int HZ.out HN.out HJ.out hD, apart_no HJ.out HI.out, ← HJ.out, Nat.add_sub_cancel_left]) (HJ.out.symm) (s'.done _ _ _)
          · have hjl2 : j + 1 < bs.length := by
              simp only [Bool.and_eq_true] at hD
              exact isAt_true_lt hD.2
            obtain ⟨⟨a0, a1, a2, af⟩, c0, c1, c2, cf⟩ := s.facts
            go_upto_block 2 with (fail)
            replace s := s.kind 6
            generalize hW : W5.setCell ⟨w.heap.size + 1, 0, none⟩ (.int .i64 6) = W6 at s ⊢
            clear hW a0 a1 a2 af c0 c1 c2 cf
            go_cut [9] from 94 to 106 (fun v wc => v = .int .i64 (((j + 1) + cnt digitB (bs.drop (j + 1)) : Nat) : Int) ∧ W6 = wc)
            case first =>
              go_wp2_with fail
              go_loopg [9] (bs.length - (j + 1)) (fun k v wr => SpanRel W6 digitB bs (j + 1) k v wr)
              case atStart => exact ⟨j + 1, rfl, by go_num, rfl, Nat.le_refl _, by omega, fun i h1 h2 => by omega⟩
              case round =>
                obtain ⟨j, hk, rfl, rfl, haj, hjl, hq⟩ := hrel
                have HK := hide hk
                have HA := hide hq
                clear hk hq
                rcases Nat.lt_or_ge j bs.length with hlt | hge
                · obtain ⟨b', off', hbe, _, hb'⟩ := s.txt.byte hlt
                  injection hbe with hbe
                  injection hbe with hbe hoe
                  subst hbe hoe
                  have hi := isAt_lt (q := digitB) hlt
                  generalize bs[j] = c' at hb' hi
                  have HI := hide hi
                  clear hi
                  cases hs : digitB c'
                  · have hpc := hs
                    have HS := hide hpc
                    clear hpc
                    go_wp2_with (go_at_call 58; refine (rdigit_any _ _).mono ?_; rintro e w' ⟨rfl, rfl⟩)
                    go_meet
                    exact ⟨by rw [(cnt_upto haj hjl HA.out (HI.out.trans HS.out)).1], rfl⟩
                  · have hpc := hs
                    have HS := hide hpc
                    clear hpc
                    go_wp2_with (go_at_call 58; refine (rdigit_any _ _).mono ?_; rintro e w' ⟨rfl, rfl⟩)
                    have hk := HK.out
                    go_roundg (bs.length - (j + 1))
                    case measure => omega
                    case rel => exact ⟨j + 1, rfl, by go_num, rfl, by omega, by omega, fun i h1 h2 => by
                      rcases Nat.lt_or_ge i j with h | h
                      · exact HA.out i h1 h
                      · obtain rfl : i = j := by omega
                        exact HI.out.trans HS.out⟩
                · go_wp2_with (go_at_call 58; refine (rdigit_any _ _).mono ?_; rintro e w' ⟨rfl, rfl⟩)
                  go_meet
                  exact ⟨by rw [(cnt_upto haj hjl HA.out (isAt_ge hge)).1], rfl⟩
            case rest =>
              obtain ⟨rfl, rfl⟩ := hcut
              generalize hm : cnt digitB (bs.drop (j + 1)) = m
              generalize hk : j + 1 + m = k
              have hkl : k ≤ bs.length := by
                rw [← hk, ← hm]
                have h1 : cnt digitB (bs.drop (j + 1)) ≤ (bs.drop (j + 1)).length := by unfold cnt; exact (List.takeWhile_sublist _).length_le
                rw [List.length_drop] at h1
                omega
              have hpk : p + (n + 1 + m) = k := by have := HJ.out; omega
              have hde := num_dec HZ.out HN.out HJ.out hD
              rw [hm] at hde
              have HK := hide hpk
              have HM := hide hde
              clear hm hk hpk hde
              have hs := fun w => run_cut w (some ⟨b, off, none⟩) bs.length cap p k (p : Int) (k : Int) rfl rfl (by have := HK.out; omega) (by omega)
              have hcv := txt_cut s.txt (p := p) (q := k) (cap := cap) (by have := HK.out; omega) (by omega) hfit (cap - p)
              have s' := s.text ((bs.drop p).take (k - p))
              obtain ⟨⟨a0, a1, a2, af⟩, c0, c1, c2, cf⟩ := s.facts
              rcases Nat.lt_or_ge k bs.length with hlt | hge
              · obtain ⟨b', off', hbe, _, hb'⟩ := s.txt.byte hlt
                injection hbe with hbe
                injection hbe with hbe hoe
                subst hbe hoe
                have hi := isAt_lt (q := symB) hlt
                generalize bs[k] = c' at hb' hi
                cases hsy : symB c'
                · rw [hsy] at hi
                  have HI := hide hi
                  clear hi
                  go_wp2_with (go_at_call 59; refine (rinner_any _ _).mono ?_; rintro e w' ⟨rfl, rfl⟩)
                  refine bodyPost_ret (v := .tuple #[tokV 6 ((bs.drop p).take (k - p)) p, .int .i64 (k : Int), .int .i64 (-1)]) (by simp [results, Tryd.results38, tokV, go_sem, a0, a1, a2]) rfl ?_
                  rw [← HP.out]
                  exact rpost_ok (by rw [HM.out, apart_no HK.out HI.out, ← HK.out, Nat.add_sub_cancel_left]) (HK.out.symm) (s'.done _ _ _)
                · rw [hsy] at hi
                  have HI := hide hi
                  clear hi
                  go_wp2_with (go_at_call 59; refine (rinner_any _ _).mono ?_; rintro e w' ⟨rfl, rfl⟩)
                  refine bodyPost_ret (v := .tuple #[tokV 6 ((bs.drop p).take (k - p)) p, .int .i64 0, .int .i64 (k : Int)]) (by simp [results, Tryd.results38, tokV, go_sem, a0, a1, a2]) rfl ?_
                  rw [← HP.out]
                  exact rpost_err (HM.out.trans (apart_yes HK.out HI.out)) (HK.out.symm) (s'.done _ _ _)
              · have HI := hide (isAt_ge (q := symB) hge)
                go_wp2_with fail
                refine bodyPost_ret (v := .tuple #[tokV 6 ((bs.drop p).take (k - p)) p, .int .i64 (k : Int), .int .i64 (-1)]) (by simp [results, Tryd.results38, tokV, go_sem, a0, a1, a2]) rfl ?_
                rw [← HP.out]
                exact rpost_ok (by rw [HM.out, apart_no HK.out HI.out, ← HK.out, Nat.add_sub_cancel_left]) (HK.out.symm) (s'.done _ _ _)
end
end Go.Proofs.YtajlibegalbbmaaDoor
