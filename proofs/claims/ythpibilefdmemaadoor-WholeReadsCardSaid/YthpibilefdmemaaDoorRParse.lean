/- collatorref01.Parse: by its contract. -/
import Derived.Test.YthpibilefdmemaaDoorRArith
import Derived.Test.YthpibilefdmemaaDoorParse
namespace Go.Proofs.YthpibilefdmemaaDoor
open Go.RowKit

/-- What the document's Parse leaves. -/
def RParsePost (w : World) (s : List UInt8) (e : Ending) (w' : World) : Prop :=
  ∃ (n : Bool) (a : Option Addr) (l k : Nat), e = .returned (.tuple #[.agg #[.bool n, .slice a l k], .bool (okT s)]) ∧ (okT s = true → NumV w' (.agg #[.bool n, .slice a l k]) (numT s)) ∧ Below w.heap.size w w'
theorem decN_cons (c : UInt8) (l : List UInt8) : decN (c :: l) = (c.toNat - 48) * 10 ^ l.length + decN l := by
  have e : decN (c :: l) = (0 * 10 + (c.toNat - 48)) * 10 ^ l.length + decN l := foldl_dec l _
  rw [e, Nat.zero_mul, Nat.zero_add]

set_option maxRecDepth 100000 in
set_option maxHeartbeats 3200000 in
theorem RParse_any (s : List UInt8) (w : World) (hs : s.length ≤ 1000000) :
    Calls Tryd.prog 13 #[.string ⟨s.toArray⟩] w (RParsePost w s) := by
  generalize hP : RParsePost w s = Post
  have HP := hide hP
  clear hP
  have hZ0 := Blk.new w 30 #[.bool false, .slice none 0 0]
  have hB0 : Below w.heap.size w (w.alloc (.cells #[.bool false, .slice none 0 0] 30)) := (Below.refl _ _).alloc (Nat.le_refl _) _
  go_enter Tryd.func13, Tryd.ntmps13
  go_upto_region 1 with (fail)
  have hsz : (w.alloc (.cells #[.bool false, .slice none 0 0] 30)).heap.size = w.heap.size + 1 := by simp
  have HSZ := hide hsz
  clear hsz
  generalize w.alloc (.cells #[.bool false, .slice none 0 0] 30) = W at hZ0 hB0 HSZ ⊢
  have HBd := hide (show body s = if decide (s.head? = some 45) = true then s.drop 1 else s by simp [body])
  go_cut [4] from 8 to 15 (fun v4 wc => W = wc ∧ v4 = .bool (decide (s.head? = some 45)))
  case first =>
    cases s with
    | nil =>
      go_wp2_with fail
      go_meet
      exact ⟨rfl, rfl⟩
    | cons c l =>
      have hsz : (⟨(c :: l).toArray⟩ : ByteArray).size = l.length + 1 := by simp [ByteArray.size]
      go_wp2_with fail
      go_meet
      refine ⟨rfl, ?_⟩
      have e : (⟨(c :: l).toArray⟩ : ByteArray)[0] = c := rfl
      rw [e, List.head?_cons]
      congr 1
      rw [Bool.eq_iff_iff]
      simp [← UInt8.toNat_inj]
      omega
  case rest =>
    obtain ⟨rfl, rfl⟩ := hcut
    have hne : decide (s.head? = some 45) = true → 1 ≤ s.length := by
      cases s with
      | nil => simp
      | cons c l => simp
    generalize hneg : decide (s.head? = some 45) = neg at *
    have HNEG := hide hneg
    clear hneg
    have hsz : (⟨s.toArray⟩ : ByteArray).size = s.length := by simp [ByteArray.size]
    go_upto_if 16 with (fail)
    go_cut [5] from 16 to 16 (fun v5 wc => W = wc ∧ ∃ at_ : Nat, v5 = .int .i64 (at_ : Int) ∧ at_ ≤ 1 ∧ at_ ≤ s.length ∧ Hid (body s = s.drop at_))
    case first =>
      cases neg with
      | true =>
        have h1 := hne rfl
        go_wp2_with fail
        go_meet
        exact ⟨rfl, 1, rfl, Nat.le_refl _, h1, hide (by rw [HBd.out]; simp)⟩
      | false =>
        go_wp2_with fail
        go_meet
        exact ⟨rfl, 0, rfl, by omega, by omega, hide (by rw [HBd.out]; simp)⟩
    case rest =>
      obtain ⟨rfl, at_, rfl, hat1, hats, HBA⟩ := hcut
      have hbl : (body s).length + at_ = s.length := by rw [HBA.out, List.length_drop]; omega
      have HIX : Hid (∀ m (h : m < (body s).length) (h2 : at_ + m < s.length), s[at_ + m] = (body s)[m]) := hide (fun m h h2 => by
        have e : (body s)[m] = (s.drop at_)[m]'(by rw [← HBA.out]; exact h) := by simp only [HBA.out]
        rw [e, List.getElem_drop])
      have HOK := hide (show okT s = (decide (0 < (body s).length) && decide ((body s).length ≤ 10000) && (body s).all decB) from rfl)
      have HNT := hide (show numT s = if okT s = true then signZ neg (decN (body s)) else 0 by rw [← HNEG.out]; rfl)
      have HPP : Hid (∀ n a l k w', (okT s = true → NumV w' (.agg #[.bool n, .slice a l k]) (numT s)) → Below w.heap.size w w' → Post (.returned (.tuple #[.agg #[.bool n, .slice a l k], .bool (okT s)])) w') := hide (fun n a l k w' h1 h2 => by rw [← HP.out]; exact ⟨n, a, l, k, rfl, h1, h2⟩)
      clear HBd hne HP HBA
      generalize body s = bs at *
      generalize okT s = ok at *
      generalize numT s = nt at *
      obtain ⟨W2, hW2⟩ : ∃ W2, W.alloc (.cells #[] 3) = W2 := ⟨_, rfl⟩
      have hb2 : Below W.heap.size W W2 := by rw [← hW2]; exact (Below.refl _ _).alloc (Nat.le_refl _) _
      have ho2 : OwnE W2 W.heap.size (.slice (some ⟨W.heap.size, 0, none⟩) 0 0) [] := by rw [← hW2]; exact own_empty W
      have HW2 := hide hW2
      clear hW2
      have hi0 : (s.length : Int) - 1 = ((at_ + bs.length : Nat) : Int) - 1 := by omega
      have HI0 := hide hi0
      clear hi0
      go_upto_region 7 with (fail)
      rw [HW2.out]
      clear HW2
      go_loopg [6, 7] bs.length (fun k v i wr => ∃ ds : List Nat, i = .int .i64 (((at_ + k : Nat) : Int) - 1) ∧ ds.length + k = bs.length ∧ OwnE wr W.heap.size v ds ∧ Digs 10 ds ∧ Hid (val 10 ds = decN (bs.drop k) ∧ (bs.drop k).all decB = true) ∧ Below W.heap.size W wr)
      case atStart => exact ⟨[], by rw [← HI0.out], by simp, ho2, Digs.nil _, hide (by simp [val, decN]), hb2⟩
      case round =>
        obtain ⟨ds, rfl, hdk, ho, hD, HS, hbw⟩ := hrel
        clear ho2 HI0
        rcases gk with _ | m
        · obtain ⟨hval, hall⟩ := HS.out
          rw [List.drop_zero] at hval hall
          obtain ⟨ra, rc, rfl⟩ := own_slice ho
          obtain ⟨hD2, hc2⟩ := own_dg ho
          have hR2 := hZ0.below hbw hZ0.lt
          have hB2 : Below w.heap.size w wr := hB0.trans (hbw.mono hB0.size)
          have e1 : decide ((at_ : Int) ≤ ((at_ + 0 : Nat) : Int) - 1) = false := decide_eq_false (by omega)
          have e2 : ¬ ((at_ : Int) ≤ ((at_ + 0 : Nat) : Int) - 1) := by omega
          have HV := hide hval
          have HA := hide hall
          have hok : ok = (decide (0 < bs.length) && decide (bs.length ≤ 10000)) := by rw [HOK.out, HA.out, Bool.and_true]
          have HOK2 := hide hok
          have hdl : ds.length ≤ 1000000 := by omega
          clear hval hall hok HS
          have HD := hide hdk
          clear hdk
          go_wp2_with fail
          refine (make1_any neg ra rc ds wr hD2 hD hc2 (by omega)).mono ?_
          rintro e w3 ⟨r3, rfl, h3, hb3⟩
          have hR3 := hR2.below hb3 hR2.lt
          have hB3 : Below w.heap.size w w3 := hB2.trans (hb3.mono hB2.size)
          obtain ⟨rn, rr, rl, rk, rfl⟩ := h3.parts
          have hI := h3.store hR3 (.bool rn) (.slice rr rl rk)
          have HI : Hid (ok = true → NumV ((w3.setCell ⟨w.heap.size, 0, none⟩ (.bool rn)).setCell ⟨w.heap.size, 1, none⟩ (.slice rr rl rk)) (.agg #[.bool rn, .slice rr rl rk]) nt) := hide (fun h => by
            rw [HNT.out, if_pos h, ← HV.out]; exact hI)
          obtain ⟨k0, k1, kf⟩ := hR3.c2
          have kf0 := kf 0
          have kf1 := kf 1
          obtain ⟨f0, f1, -⟩ := (hR3.two (.bool rn) (.slice rr rl rk)).c2
          have h4 := HPP.out rn rr rl rk _ HI.out ((hB3.setCell (p := ⟨w.heap.size, 0, none⟩) (Nat.le_refl _) _).setCell (p := ⟨w.heap.size, 1, none⟩) (Nat.le_refl _) _)
          have H4 := hide h4
          clear h4 hI e1 e2
          by_cases hb0 : 0 < bs.length
          · have t1 : decide (at_ < s.length) = true := decide_eq_true (by omega)
            have t1' : decide ((at_ : Int) < (s.length : Int)) = true := decide_eq_true (by omega)
            by_cases hb1 : bs.length ≤ 10000
            · have t2 : decide ((s.length : Int) - (at_ : Int) ≤ 10000) = true := decide_eq_true (by omega)
              have hok : ok = true := by rw [HOK2.out, decide_eq_true hb0, decide_eq_true hb1]; rfl
              have HOK3 := hide hok
              clear hok
              go_wp2_with fail
              refine bodyPost_ret (v := .tuple #[.agg #[.bool rn, .slice rr rl rk], .bool true]) (by simp [results, Tryd.results13, go_sem, f0, f1]) rfl ?_
              have h5 := H4.out
              rw [HOK3.out] at h5
              exact h5
            · have t2 : decide ((s.length : Int) - (at_ : Int) ≤ 10000) = false := decide_eq_false (by omega)
              have hok : ok = false := by rw [HOK2.out, decide_eq_false hb1, Bool.and_false]
              have HOK3 := hide hok
              clear hok
              go_wp2_with fail
              refine bodyPost_ret (v := .tuple #[.agg #[.bool rn, .slice rr rl rk], .bool false]) (by simp [results, Tryd.results13, go_sem, f0, f1]) rfl ?_
              have h5 := H4.out
              rw [HOK3.out] at h5
              exact h5
          · have t1 : decide (at_ < s.length) = false := decide_eq_false (by omega)
            have t1' : decide ((at_ : Int) < (s.length : Int)) = false := decide_eq_false (by omega)
            have hok : ok = false := by rw [HOK2.out, decide_eq_false hb0, Bool.false_and]
            have HOK3 := hide hok
            clear hok
            go_wp2_with fail
            refine bodyPost_ret (v := .tuple #[.agg #[.bool rn, .slice rr rl rk], .bool false]) (by simp [results, Tryd.results13, go_sem, f0, f1]) rfl ?_
            have h5 := H4.out
            rw [HOK3.out] at h5
            exact h5
        · rw [show (((at_ + (m + 1) : Nat) : Int) - 1) = ((at_ + m : Nat) : Int) by omega]
          have hm : m < bs.length := by omega
          have hj : at_ + m < s.length := by omega
          have hjs : at_ + m < (⟨s.toArray⟩ : ByteArray).size := by rw [hsz]; exact hj
          have hix : (⟨s.toArray⟩ : ByteArray)[at_ + m] = bs[m] := (show (⟨s.toArray⟩ : ByteArray)[at_ + m] = s[at_ + m] from rfl).trans (HIX.out m hm hj)
          have hcons : bs.drop m = bs[m] :: bs.drop (m + 1) := List.drop_eq_getElem_cons hm
          have HD1 : Hid (decB bs[m] = true → (bs.drop m).all decB = true) := hide (fun h => by rw [hcons, List.all_cons, h, HS.out.2]; rfl)
          have HD2 : Hid (val 10 (ds ++ [(bs[m]).toNat - 48]) = decN (bs.drop m)) := hide (by
            rw [hcons, decN_cons, val_snoc, HS.out.1, List.length_drop, show bs.length - (m + 1) = ds.length by omega, Nat.mul_comm, Nat.add_comm])
          have HD0 : Hid (decB bs[m] = false → ok = false) := hide (fun h => by
            have h2 : bs.all decB = false := List.all_eq_false.2 ⟨_, List.getElem_mem hm, by simp [h]⟩
            rw [HOK.out, h2, Bool.and_false])
          have hge : decide (at_ ≤ at_ + m) = true := decide_eq_true (by omega)
          generalize bs[m] = c at hix HD1 HD2 HD0
          clear hcons HS
          have hdk2 : at_ + m ≤ 1000000 := by omega
          have HAM : Hid (at_ + m = at_ + m) := hide rfl
          generalize hK : at_ + m = K at *
          have HK := hide hK
          have hK0 : at_ ≤ K := by omega
          clear hK HAM
          cases hdc : decB c with
          | true =>
            have h48 : 48 ≤ c.toNat ∧ c.toNat ≤ 57 := by simpa [decB] using hdc
            have t1 : decide ((c.toNat : Int) < 48) = false := by simp; omega
            have t2 : decide ((57 : Int) < (c.toNat : Int)) = false := by simp; omega
            have t3 : ¬ (c.toNat : Int) < 48 := by omega
            have t4 : ¬ (57 : Int) < (c.toNat : Int) := by omega
            have HV := hide (HD1.out hdc)
            clear HD1 HD0 hdc
            obtain ⟨q, hq⟩ : ∃ q : Nat, q = c.toNat - 48 := ⟨_, rfl⟩
            rw [← hq] at HD2
            have hq1 : (c.toNat : Int) - 48 = (q : Int) := by omega
            have hq9 : q < 10 := by omega
            have ho1 := ho.alloc (.cells #[.int .i64 (q : Int)] 3)
            have hle1 := hbw.size
            have hdl : ds.length ≤ 1000000 := by omega
            have HDK := hide hdk
            clear hq hdk
            go_wp2_with (at_builtin; refine wpList_append_int rfl (.tmp 37) (.tmp 43) rfl W.heap.size _ ds rfl ho1 ⟨_, 0, none⟩ q rfl ?c1 ?c2 ?c3 ?_)
            case c2 => omega
            case c3 => omega
            intro v' w2 ho3 hb3
            have hb4 : Below W.heap.size W w2 := hbw.trans (((Below.refl _ _).alloc hle1 _).trans hb3)
            clear ho ho1 hbw hb3 hq1
            go_wp2_with fail
            go_roundg m
            case measure => omega
            case rel => exact ⟨ds ++ [q], by have := HK.out; congr 1; omega, by have := HDK.out; simp; omega, ho3, hD.snoc hq9, hide ⟨HD2.out, HV.out⟩, hb4⟩
          | false =>
            have HF := hide (HD0.out hdc)
            have h48 : c.toNat < 48 ∨ 57 < c.toNat := by
              rcases Nat.lt_or_ge c.toNat 48 with h | h
              · exact .inl h
              · refine .inr ?_
                rcases Nat.lt_or_ge 57 c.toNat with h' | h'
                · exact h'
                · exfalso; rw [decB, decide_eq_true h, decide_eq_true h'] at hdc; cases hdc
            have hR2 := hZ0.below hbw hZ0.lt
            have hB2 : Below w.heap.size w wr := hB0.trans (hbw.mono hB0.size)
            obtain ⟨k0, k1, kf⟩ := hR2.c2
            have kf0 := kf 0
            have kf1 := kf 1
            obtain ⟨f0, f1, -⟩ := (hR2.two (.bool false) (.slice none 0 0)).c2
            have h4 := HPP.out false none 0 0 _ (fun h => by rw [HF.out] at h; cases h) ((hB2.setCell (p := ⟨w.heap.size, 0, none⟩) (Nat.le_refl _) (.bool false)).setCell (p := ⟨w.heap.size, 1, none⟩) (Nat.le_refl _) (.slice none 0 0))
            rw [HF.out] at h4
            have H4 := hide h4
            clear HD1 HD0 hdc h4 hdk
            by_cases h1 : c.toNat < 48
            · have t1 : decide ((c.toNat : Int) < 48) = true := by simp; omega
              have t3 : (c.toNat : Int) < 48 := by omega
              go_wp2_with fail
              refine bodyPost_ret (v := .tuple #[.agg #[.bool false, .slice none 0 0], .bool false]) (by simp [results, Tryd.results13, go_sem, f0, f1]) rfl ?_
              exact H4.out
            · have t1 : decide ((c.toNat : Int) < 48) = false := by simp; omega
              have t2 : decide ((57 : Int) < (c.toNat : Int)) = true := by simp; omega
              have t3 : ¬ (c.toNat : Int) < 48 := by omega
              have t4 : (57 : Int) < (c.toNat : Int) := by omega
              go_wp2_with fail
              refine bodyPost_ret (v := .tuple #[.agg #[.bool false, .slice none 0 0], .bool false]) (by simp [results, Tryd.results13, go_sem, f0, f1]) rfl ?_
              exact H4.out
end Go.Proofs.YthpibilefdmemaaDoor
