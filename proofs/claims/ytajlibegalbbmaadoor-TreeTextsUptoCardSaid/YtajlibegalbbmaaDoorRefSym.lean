/- The reference's token, one kind of first byte. -/
import Derived.Test.YtajlibegalbbmaaDoorRefTok
namespace Go.Proofs.YtajlibegalbbmaaDoor
open Go.RowKit
section
variable {w : World} {ta : Option Addr} {cap : Nat} {bs : List UInt8} {p : Nat}

set_option maxRecDepth 100000 in
set_option maxHeartbeats 3200000 in
theorem rtok_wrong (ht : Txt w w.heap.size ta bs) (_hfit : bs.length ≤ cap) (hmax : bs.length ≤ 140737488351232) (hp : p < bs.length) (hd : digitB bs[p] = false) (h40 : bs[p].toNat ≠ 40) (h41 : bs[p].toNat ≠ 41) (h35 : bs[p].toNat ≠ 35) (h34 : bs[p].toNat ≠ 34) (h124 : bs[p].toNat ≠ 124) (h58 : bs[p].toNat ≠ 58) (hs : symB bs[p] = false) :
    Calls Tryd.prog 38 #[.slice ta bs.length cap, .int .i64 (p : Int)] w (RTokPost w p (.error 0)) := by
  generalize hP : RTokPost w p (.error 0) = Post
  have HP := hide hP
  clear hP
  obtain ⟨b, off, rfl, hbR, hb⟩ := ht.byte hp
  generalize bs[p] = c at hb hd h40 h41 h35 h34 h124 h58 hs
  have n40 : ((c.toNat : Int) == 40) = false := by simp; omega
  have n41 : ((c.toNat : Int) == 41) = false := by simp; omega
  have n35 : ((c.toNat : Int) == 35) = false := by simp; omega
  have n34 : ((c.toNat : Int) == 34) = false := by simp; omega
  have n124 : ((c.toNat : Int) == 124) = false := by simp; omega
  have n58 : ((c.toNat : Int) == 58) = false := by simp; omega
  clear h40 h41 h35 h34 h124 h58
  go_enter Tryd.func38, Tryd.ntmps38
  go_wp2_with (first | (go_at_call 58; refine (rdigit_any _ _).mono ?_; rintro e w' ⟨rfl, rfl⟩) | (go_at_call 59; refine (rinner_any _ _).mono ?_; rintro e w' ⟨rfl, rfl⟩))
  refine bodyPost_ret (v := .tuple #[tokV 0 ([]) p, .int .i64 0, .int .i64 (p : Int)]) (by simp [results, Tryd.results38, tokV, go_sem]) rfl ?_
  rw [← HP.out]
  exact rpost_err (o := 0) rfl rfl (((Below.refl _ _).alloc (Nat.le_refl _) _).alloc (by simp) _)

set_option maxRecDepth 100000 in
set_option maxHeartbeats 3200000 in
theorem rtok_sym (ht : Txt w w.heap.size ta bs) (hfit : bs.length ≤ cap) (hmax : bs.length ≤ 140737488351232) (hp : p < bs.length) (hd : digitB bs[p] = false) (h40 : bs[p].toNat ≠ 40) (h41 : bs[p].toNat ≠ 41) (h35 : bs[p].toNat ≠ 35) (h34 : bs[p].toNat ≠ 34) (h124 : bs[p].toNat ≠ 124) (h58 : bs[p].toNat ≠ 58) (hs : symB bs[p] = true) :
    Calls Tryd.prog 38 #[.slice ta bs.length cap, .int .i64 (p : Int)] w (RTokPost w p (symT (bs.drop p))) := by
  generalize hP : RTokPost w p (symT (bs.drop p)) = Post
  have HP := hide hP
  clear hP
  obtain ⟨b, off, rfl, hbR, hb⟩ := ht.byte hp
  have hdp : 1 + cnt symB (bs.drop (p + 1)) = cnt symB (bs.drop p) := by
    rw [drop_at hp]
    unfold cnt
    rw [List.takeWhile_cons, hs, if_pos rfl, List.length_cons]
    omega
  have HDP := hide hdp
  clear hdp
  generalize bs[p] = c at hb hd h40 h41 h35 h34 h124 h58 hs
  have n40 : ((c.toNat : Int) == 40) = false := by simp; omega
  have n41 : ((c.toNat : Int) == 41) = false := by simp; omega
  have n35 : ((c.toNat : Int) == 35) = false := by simp; omega
  have n34 : ((c.toNat : Int) == 34) = false := by simp; omega
  have n124 : ((c.toNat : Int) == 124) = false := by simp; omega
  have n58 : ((c.toNat : Int) == 58) = false := by simp; omega
  clear h40 h41 h35 h34 h124 h58
  go_enter Tryd.func38, Tryd.ntmps38
  go_upto_block 12 with (first | (go_at_call 58; refine (rdigit_any _ _).mono ?_; rintro e w' ⟨rfl, rfl⟩) | (go_at_call 59; refine (rinner_any _ _).mono ?_; rintro e w' ⟨rfl, rfl⟩))
  have s : Rs w (some ⟨b, off, none⟩) bs 0 [] p ((w.alloc (.cells zeroTok 23)).alloc (.cells #[.int .i64 0, .string ⟨#[]⟩, .int .i64 (p : Int)] 23)) := Rs.start ht 0 [] p
  generalize hW : (w.alloc (.cells zeroTok 23)).alloc (.cells #[.int .i64 0, .string ⟨#[]⟩, .int .i64 (p : Int)] 23) = W7 at s ⊢
  clear hW
  obtain ⟨⟨a0, a1, a2, af⟩, c0, c1, c2, cf⟩ := s.facts
  go_cut [9] from 364 to 376 (fun v wc => v = .int .i64 (((p + 1) + cnt symB (bs.drop (p + 1)) : Nat) : Int) ∧ W7 = wc)
  case first =>
    go_wp2_with fail
    go_loopg [9] (bs.length - (p + 1)) (fun k v wr => SpanRel W7 symB bs (p + 1) k v wr)
    case atStart => exact ⟨p + 1, rfl, by go_num, rfl, Nat.le_refl _, by omega, fun i h1 h2 => by omega⟩
    case round =>
      obtain ⟨j, hk, rfl, rfl, haj, hjl, hq⟩ := hrel
      have HK := hide hk
      have HA := hide hq
      clear hk hq
      rcases Nat.lt_or_ge j bs.length with hlt | hge
      · obtain ⟨b', off', hbe, _, hb'⟩ := s.txt.byte hlt
        injection hbe with hbe
        injection hbe with hbe hoe
        subst hbe hoe
        have hi := isAt_lt (q := symB) hlt
        generalize bs[j] = c' at hb' hi
        have HI := hide hi
        clear hi
        cases hs : symB c'
        · have hpc := hs
          have HS := hide hpc
          clear hpc
          go_wp2_with (go_at_call 59; refine (rinner_any _ _).mono ?_; rintro e w' ⟨rfl, rfl⟩)
          go_meet
          exact ⟨by rw [(cnt_upto haj hjl HA.out (HI.out.trans HS.out)).1], rfl⟩
        · have hpc := hs
          have HS := hide hpc
          clear hpc
          go_wp2_with (go_at_call 59; refine (rinner_any _ _).mono ?_; rintro e w' ⟨rfl, rfl⟩)
          have hk := HK.out
          go_roundg (bs.length - (j + 1))
          case measure => omega
          case rel => exact ⟨j + 1, rfl, by go_num, rfl, by omega, by omega, fun i h1 h2 => by
            rcases Nat.lt_or_ge i j with h | h
            · exact HA.out i h1 h
            · obtain rfl : i = j := by omega
              exact HI.out.trans HS.out⟩
      · go_wp2_with (go_at_call 59; refine (rinner_any _ _).mono ?_; rintro e w' ⟨rfl, rfl⟩)
        go_meet
        exact ⟨by rw [(cnt_upto haj hjl HA.out (isAt_ge hge)).1], rfl⟩
  case rest =>
    obtain ⟨rfl, rfl⟩ := hcut
    have hjl : p + 1 + cnt symB (bs.drop (p + 1)) ≤ bs.length := by
      have h1 : cnt symB (bs.drop (p + 1)) ≤ (bs.drop (p + 1)).length := by unfold cnt; exact (List.takeWhile_sublist _).length_le
      rw [List.length_drop] at h1
      omega
    generalize hj : p + 1 + cnt symB (bs.drop (p + 1)) = j at hjl
    have hpj : p + cnt symB (bs.drop p) = j := by have := HDP.out; omega
    have HJ := hide hpj
    have hpj' : p + 1 ≤ j := by omega
    clear hj hpj HDP
    have htk : (bs.drop p).takeWhile symB = (bs.drop p).take (j - p) := by
      have h := HJ.out
      rw [show j - p = cnt symB (bs.drop p) by omega]
      exact takeWhile_take _ _
    have HTK := hide htk
    clear htk
    have hs := fun w => run_cut w (some ⟨b, off, none⟩) bs.length cap p j (p : Int) (j : Int) rfl rfl (by omega) (by omega)
    have hcv := txt_cut s.txt (p := p) (q := j) (cap := cap) (by omega) (by omega) hfit (cap - p)
    have s' := (s.text ((bs.drop p).take (j - p))).kind 3
    go_wp2_with fail
    generalize hW : (W7.setCell ⟨w.heap.size + 1, 1, none⟩ (.string ⟨((bs.drop p).take (j - p)).toArray⟩)).setCell ⟨w.heap.size + 1, 0, none⟩ (.int .i64 3) = W8 at s' ⊢
    clear hW
    refine (rreserved_any _ _).mono ?_
    rintro e w9 ⟨rfl, hbel⟩
    have s9 := s'.below hbel
    clear s' hbel a0 a1 a2 af c0 c1 c2 cf s
    obtain ⟨⟨a0, a1, a2, af⟩, c0, c1, c2, cf⟩ := s9.facts
    cases hw : isWord ((bs.drop p).take (j - p))
    · go_wp2_with fail
      refine bodyPost_ret (v := .tuple #[tokV 3 ((bs.drop p).take (j - p)) p, .int .i64 (j : Int), .int .i64 (-1)]) (by simp [results, Tryd.results38, tokV, go_sem, a0, a1, a2]) rfl ?_
      rw [← HP.out]
      exact rpost_ok (n := cnt symB (bs.drop p)) (by unfold symT; rw [HTK.out, hw]; rfl) HJ.out.symm (s9.done _ _ _)
    · have s10 := s9.kind 4
      go_wp2_with fail
      refine bodyPost_ret (v := .tuple #[tokV 4 ((bs.drop p).take (j - p)) p, .int .i64 (j : Int), .int .i64 (-1)]) (by simp [results, Tryd.results38, tokV, go_sem, a0, a1, a2]) rfl ?_
      rw [← HP.out]
      exact rpost_ok (n := cnt symB (bs.drop p)) (by unfold symT; rw [HTK.out, hw]; rfl) HJ.out.symm (s10.done _ _ _)
end
end Go.Proofs.YtajlibegalbbmaaDoor
