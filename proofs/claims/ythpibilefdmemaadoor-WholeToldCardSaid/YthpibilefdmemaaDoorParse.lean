/- whole.Parse: by its contract. -/
import Derived.Test.YthpibilefdmemaaDoorDecLaw
import Derived.Test.YthpibilefdmemaaDoorTwo
namespace Go.Proofs.YthpibilefdmemaaDoor
open Go.RowKit

/-- Is it a decimal digit? -/
def decB (c : UInt8) : Bool := decide (48 ≤ c.toNat) && decide (c.toNat ≤ 57)
/-- The number of decimal digits, the first ahead. -/
def decN (l : List UInt8) : Nat := l.foldl (fun n c => n * 10 + (c.toNat - 48)) 0
/-- The text behind its sign. -/
def body (s : List UInt8) : List UInt8 := if s.head? = some 45 then s.drop 1 else s
/-- Is it a number's text? -/
def okT (s : List UInt8) : Bool := decide (0 < (body s).length) && decide ((body s).length ≤ 10000) && (body s).all decB
/-- The number of a text. -/
def numT (s : List UInt8) : Int := if okT s then signZ (decide (s.head? = some 45)) (decN (body s)) else 0

theorem foldl_dec (l : List UInt8) : ∀ a : Nat, l.foldl (fun n c => n * 10 + (c.toNat - 48)) a = a * 10 ^ l.length + decN l := by
  induction l with
  | nil => intro a; simp [decN]
  | cons c l ih =>
    intro a
    have e : decN (c :: l) = (0 * 10 + (c.toNat - 48)) * 10 ^ l.length + decN l := ih _
    rw [List.foldl_cons, ih, e, List.length_cons, Nat.pow_succ, Nat.zero_mul, Nat.zero_add, Nat.add_mul, Nat.mul_assoc, Nat.mul_comm 10, Nat.add_assoc]
theorem decN_append (a b : List UInt8) : decN (a ++ b) = decN a * 10 ^ b.length + decN b := by
  rw [decN, List.foldl_append, foldl_dec b]; rfl
theorem decN_snoc (a : List UInt8) (c : UInt8) : decN (a ++ [c]) = decN a * 10 + (c.toNat - 48) := by
  rw [decN, List.foldl_append]; rfl
theorem decN_lt : ∀ (l : List UInt8), l.all decB = true → decN l < 10 ^ l.length
  | [], _ => by simp [decN]
  | c :: l, h => by
    simp only [List.all_cons, Bool.and_eq_true] at h
    have h1 := decN_lt l h.2
    have h2 : c.toNat ≤ 57 := by have := h.1; simp [decB] at this; exact this.2
    have e : decN (c :: l) = (0 * 10 + (c.toNat - 48)) * 10 ^ l.length + decN l := foldl_dec l _
    rw [e, List.length_cons, Nat.pow_succ]
    have h3 : (0 * 10 + (c.toNat - 48)) * 10 ^ l.length ≤ 9 * 10 ^ l.length := Nat.mul_le_mul_right _ (by omega)
    omega
theorem decB_at {l : List UInt8} (h : l.all decB = true) {i : Nat} (hi : i < l.length) : 48 ≤ (l[i]).toNat ∧ (l[i]).toNat ≤ 57 := by
  have := List.all_eq_true.1 h _ (List.getElem_mem hi)
  simpa [decB] using this

theorem extract_drop (s : List UInt8) : (⟨s.toArray⟩ : ByteArray).extract 1 s.length = ⟨(s.drop 1).toArray⟩ := by
  apply ByteArray.ext
  simp [ByteArray.data_extract]
  exact List.take_of_length_le (by simp)

/-- The digits so far, of all but the first r. -/
structure PaSt (w : World) (base : Nat) (bs : List UInt8) (v : Value) (ds : List Nat) (r : Nat) (wr : World) : Prop where
  own : OwnD wr base v ds
  digs : Digs BB ds
  sum : val BB ds + BB ^ ds.length * decN (bs.take r) = decN bs
  bel : Below base w wr
  le : base ≤ wr.heap.size
  at_ : r ≤ bs.length
  len : ds.length + r ≤ bs.length

/-- What Parse leaves. -/
def ParsePost (w : World) (s : List UInt8) (e : Ending) (w' : World) : Prop := ∃ r, e = .returned (.tuple #[r, .bool (okT s)]) ∧ IntV w' r (numT s) ∧ Below w.heap.size w w'

set_option maxRecDepth 100000 in
set_option maxHeartbeats 3200000 in
theorem Parse_any (s : List UInt8) (w : World) (hs : s.length ≤ 1099511627776) :
    Calls Tryd.prog 12 #[.string ⟨s.toArray⟩] w (ParsePost w s) := by
  generalize hP : ParsePost w s = Post
  have HP := hide hP
  clear hP
  have hZ0 := Blk.new w 24 #[.bool false, .slice none 0 0]
  have hB0 : Below w.heap.size w (w.alloc (.cells #[.bool false, .slice none 0 0] 24)) := (Below.refl _ _).alloc (Nat.le_refl _) _
  go_enter Tryd.func12, Tryd.ntmps12
  go_upto_region 1 with (fail)
  have hsz : (w.alloc (.cells #[.bool false, .slice none 0 0] 24)).heap.size = w.heap.size + 1 := by simp
  have HSZ := hide hsz
  clear hsz
  generalize w.alloc (.cells #[.bool false, .slice none 0 0] 24) = W at hZ0 hB0 HSZ ⊢
  have HBd := hide (show body s = if decide (s.head? = some 45) = true then s.drop 1 else s by simp [body])
  go_cut [4] from 10 to 17 (fun v4 wc => W = wc ∧ v4 = .bool (decide (s.head? = some 45)))
  case first =>
    cases s with
    | nil =>
      go_wp2_with fail
      go_meet
      exact ⟨rfl, rfl⟩
    | cons c l =>
      have hsz : (⟨(c :: l).toArray⟩ : ByteArray).size = l.length + 1 := by simp [ByteArray.size]
      go_wp2_with fail
      go_meet
      refine ⟨rfl, ?_⟩
      have e : (⟨(c :: l).toArray⟩ : ByteArray)[0] = c := rfl
      rw [e, List.head?_cons]
      congr 1
      rw [Bool.eq_iff_iff]
      simp [← UInt8.toNat_inj]
      omega
  case rest =>
    obtain ⟨rfl, rfl⟩ := hcut
    have hne : decide (s.head? = some 45) = true → 1 ≤ s.length := by
      cases s with
      | nil => simp
      | cons c l => simp
    generalize hneg : decide (s.head? = some 45) = neg at *
    have HNEG := hide hneg
    clear hneg
    have hsz : (⟨s.toArray⟩ : ByteArray).size = s.length := by simp [ByteArray.size]
    go_upto_if 18 with (fail)
    go_cut [0] from 19 to 20 (fun v0 wc => W = wc ∧ v0 = .string ⟨(body s).toArray⟩)
    case first =>
      cases neg with
      | true =>
        have h1 := hne rfl
        go_wp2_with fail
        go_meet
        exact ⟨rfl, by rw [HBd.out, extract_drop]; simp⟩
      | false =>
        go_wp2_with fail
        go_meet
        exact ⟨rfl, by rw [HBd.out]; simp⟩
    case rest =>
      obtain ⟨rfl, rfl⟩ := hcut
      have hbl : (body s).length ≤ s.length := by unfold body; split <;> simp
      have HOK := hide (show okT s = (decide (0 < (body s).length) && decide ((body s).length ≤ 10000) && (body s).all decB) from rfl)
      have HNT := hide (show numT s = if okT s = true then signZ neg (decN (body s)) else 0 by rw [← HNEG.out]; rfl)
      have HPP : Hid (∀ r w', IntV w' r (numT s) → Below w.heap.size w w' → Post (.returned (.tuple #[r, .bool (okT s)])) w') := hide (fun r w' h1 h2 => by rw [← HP.out]; exact ⟨r, rfl, h1, h2⟩)
      clear HBd hne hsz HP
      generalize body s = bs at *
      generalize okT s = ok at *
      generalize numT s = nt at *
      have hsz : (⟨bs.toArray⟩ : ByteArray).size = bs.length := by simp [ByteArray.size]
      obtain ⟨c0, c1, cf⟩ := hZ0.c2
      have hZ1 := hZ0.two (.bool false) (.slice none 0 0)
      have hB1 : Below w.heap.size w ((W.setCell ⟨w.heap.size, 0, none⟩ (.bool false)).setCell ⟨w.heap.size, 1, none⟩ (.slice none 0 0)) := (hB0.setCell (Nat.le_refl _) _).setCell (Nat.le_refl _) _
      have HFAIL : Hid (ok = false → Post (.returned (.tuple #[.agg #[.bool false, .slice none 0 0], .bool false])) ((W.setCell ⟨w.heap.size, 0, none⟩ (.bool false)).setCell ⟨w.heap.size, 1, none⟩ (.slice none 0 0))) := hide (fun h => by
        have h2 := HNT.out
        rw [h] at h2
        simp at h2
        have h3 := HPP.out (.agg #[.bool false, .slice none 0 0]) _ (by rw [h2]; exact IntV.zero _) hB1
        rw [h] at h3
        exact h3)
      obtain ⟨e0, e1, -⟩ := hZ1.c2
      by_cases h0 : bs.length = 0
      · have hb0 : ((bs.length : Int) == 0) = true := by rw [h0]; rfl
        have HV := hide (HFAIL.out (by rw [HOK.out, decide_eq_false (show ¬ 0 < bs.length by omega)]; rfl))
        go_wp2_with fail
        refine bodyPost_ret (v := .tuple #[.agg #[.bool false, .slice none 0 0], .bool false]) (by simp [results, Tryd.results12, go_sem, e0, e1]) rfl ?_
        exact HV.out
      · have hb0 : ((bs.length : Int) == 0) = false := beq_eq_false_iff_ne.2 (by omega)
        by_cases hbig : 10000 < bs.length
        · have hb1 : decide ((10000 : Int) < (bs.length : Int)) = true := by simp; omega
          have hb2 : (10000 : Int) < (bs.length : Int) := by omega
          have HV := hide (HFAIL.out (by rw [HOK.out, decide_eq_false (show ¬ bs.length ≤ 10000 by omega)]; simp))
          go_wp2_with fail
          refine bodyPost_ret (v := .tuple #[.agg #[.bool false, .slice none 0 0], .bool false]) (by simp [results, Tryd.results12, go_sem, e0, e1]) rfl ?_
          exact HV.out
        · have hb1 : decide ((10000 : Int) < (bs.length : Int)) = false := by simp; omega
          have hb2 : ¬ (10000 : Int) < (bs.length : Int) := by omega
          have HOK2 := hide (show ok = bs.all decB by rw [HOK.out, decide_eq_true (show 0 < bs.length by omega), decide_eq_true (show bs.length ≤ 10000 by omega)]; rfl)
          have hbl2 : bs.length ≤ 10000 := by omega
          clear HOK hbig
          go_wp2_with fail
          go_loopg [32] bs.length (fun k v wr => W = wr ∧ ∃ j : Nat, j + k = bs.length ∧ v = .int .i64 (j : Int) ∧ Hid ((bs.take j).all decB = true))
          case atStart => exact ⟨rfl, 0, by omega, rfl, hide (by simp)⟩
          case round =>
            obtain ⟨rfl, j, hjk, rfl, HT⟩ := hrel
            rcases Nat.eq_zero_or_pos gk with hk0 | hk0
            · subst hk0
              obtain rfl : j = bs.length := by omega
              have hall : bs.all decB = true := by have h := HT.out; rwa [List.take_length] at h
              have HALL := hide hall
              clear hall
              have hok : ok = true := by rw [HOK2.out]; exact HALL.out
              have HNT2 := hide (show nt = signZ neg (decN bs) by rw [HNT.out, if_pos hok])
              have HOKT := hide hok
              clear hok HT hjk e0 e1 hZ1 hB1 c0 c1 cf
              have hle0 : w.heap.size + 1 ≤ W.heap.size := by rw [HSZ.out]; exact Nat.le_refl _
              have s0 : PaSt W (w.heap.size + 1) bs (.slice none 0 0) [] bs.length W := ⟨OwnD.nil _ _, Digs.nil _, by simp [val], Below.refl _ _, hle0, Nat.le_refl _, by simp⟩
              go_wp2_with fail
              go_loopg [6, 7] bs.length (fun r v e wr => ∃ (ds : List Nat) (ez : Int), e = .int .i64 ez ∧ (ez = (r : Int) ∨ r = 0 ∧ -9 ≤ ez ∧ ez ≤ 0) ∧ PaSt W (w.heap.size + 1) bs v ds r wr)
              case atStart => exact ⟨[], _, rfl, .inl rfl, s0⟩
              case round =>
                obtain ⟨ds, ez, rfl, hez, st⟩ := hrel
                clear s0
                rcases Nat.eq_zero_or_pos gk with hr0 | hr0
                · subst hr0
                  have hez0 : ¬ (0 : Int) < ez := by omega
                  have hez1 : decide ((0 : Int) < ez) = false := by simp; omega
                  have hv : val BB ds = decN bs := by have := st.sum; simpa [decN] using this
                  obtain ⟨va, vc, rfl⟩ := own_slice st.own
                  obtain ⟨hD, hF⟩ := own_dg st.own
                  have hlen := st.len
                  have hdig := st.digs
                  have hZ2 := hZ0.below st.bel (Nat.lt_succ_self _)
                  have hB2 := hB0.trans (st.bel.mono (by omega))
                  have HV := hide (show signZ neg (val BB ds) = nt by rw [hv, HNT2.out])
                  clear st hez hv
                  go_wp2_with fail
                  refine (signed_any neg va vc ds wr hD hdig hF.le (by omega)).mono ?_
                  rintro e w3 ⟨r3, rfl, h3, hb3⟩
                  rw [HV.out] at h3
                  obtain ⟨rn, ra, rl, rc, rfl⟩ := h3.parts
                  have hZ3 := hZ2.below hb3 hZ2.lt
                  have hB3 : Below w.heap.size w w3 := hB2.trans (hb3.mono hB2.size)
                  have hI := h3.store hZ3 (.bool rn) (.slice ra rl rc)
                  obtain ⟨k0, k1, kf⟩ := hZ3.c2
                  have kf0 := kf 0
                  have kf1 := kf 1
                  obtain ⟨e0, e1, -⟩ := (hZ3.two (.bool rn) (.slice ra rl rc)).c2
                  go_wp2_with fail
                  refine bodyPost_ret (v := .tuple #[.agg #[.bool rn, .slice ra rl rc], .bool true]) (by simp [results, Tryd.results12, go_sem, e0, e1]) rfl ?_
                  have h4 := HPP.out _ _ hI ((hB3.setCell (Nat.le_refl _) _).setCell (Nat.le_refl _) _)
                  rw [HOKT.out] at h4
                  exact h4
                · obtain ⟨R, hR⟩ : ∃ R, R = gk := ⟨_, rfl⟩
                  subst hR
                  obtain rfl : ez = (R : Int) := by omega
                  clear hez
                  obtain ⟨st0, hst0⟩ : ∃ st0 : Nat, st0 = R - 9 := ⟨_, rfl⟩
                  have hgl := st.at_
                  have hlen := st.len
                  have hst1 : st0 ≤ R := by omega
                  have hst2 : R ≤ st0 + 9 := by omega
                  have HST := hide hst0
                  clear hst0
                  go_upto_region 17 with (fail)
                  go_cut [9] from 53 to 55 (fun v9 wc => wr = wc ∧ v9 = .int .i64 (st0 : Int))
                  case first =>
                    by_cases h9 : (0 : Int) ≤ (R : Int) - 9
                    · go_wp2_with fail
                      go_meet
                      exact ⟨rfl, by have := HST.out; congr 1; omega⟩
                    · go_wp2_with fail
                      go_meet
                      exact ⟨rfl, by have := HST.out; congr 1; omega⟩
                  case rest =>
                  obtain ⟨rfl, rfl⟩ := hcut
                  go_wp2_with fail
                  go_loopg [8, 9] (R - st0) (fun k v8 v9 wi => wr = wi ∧ ∃ j : Nat, j + k = R ∧ st0 ≤ j ∧ v9 = .int .i64 (j : Int) ∧ ∃ dn : Nat, v8 = .int .u32 (dn : Int) ∧ Hid (dn = decN ((bs.drop st0).take (j - st0))))
                  case atStart => exact ⟨rfl, st0, by omega, Nat.le_refl _, rfl, 0, rfl, hide (by simp [decN])⟩
                  case round =>
                    obtain ⟨rfl, j, hjg, hsj, rfl, dn, rfl, HDN⟩ := hrel
                    have hpl : ((bs.drop st0).take (j - st0)).length = j - st0 := by simp; omega
                    have hpd : ((bs.drop st0).take (j - st0)).all decB = true := List.all_eq_true.2 fun x hx => List.all_eq_true.1 HALL.out x (List.mem_of_mem_drop (List.mem_of_mem_take hx))
                    have hlt := decN_lt _ hpd
                    rw [hpl, ← HDN.out] at hlt
                    rcases Nat.eq_zero_or_pos gk with hk0 | hk0
                    · subst hk0
                      obtain rfl : j = R := by omega
                      have hBB : dn < BB := Nat.lt_of_lt_of_le hlt (show 10 ^ (j - st0) ≤ 10 ^ 9 from Nat.pow_le_pow_right (by decide) (by omega))
                      have hsplit : decN (bs.take j) = decN (bs.take st0) * 10 ^ (j - st0) + dn := by
                        have e : bs.take j = bs.take st0 ++ (bs.drop st0).take (j - st0) := by
                          rw [← List.take_add, show st0 + (j - st0) = j by omega]
                        rw [e, decN_append, hpl, ← HDN.out]
                      have hsum : val BB (ds ++ [dn]) + BB ^ (ds ++ [dn]).length * decN (bs.take st0) = decN bs := by
                        rw [← st.sum, hsplit, val_snoc, List.length_append, List.length_singleton, Nat.pow_succ, Nat.mul_add, Nat.add_assoc, Nat.mul_assoc]
                        congr 1
                        rw [Nat.add_comm]
                        congr 1
                        congr 1
                        rw [Nat.mul_comm]
                        rcases Nat.lt_or_ge j 9 with h9 | h9
                        · have : st0 = 0 := by have := HST.out; omega
                          subst this
                          simp [decN]
                        · have : j - st0 = 9 := by have := HST.out; omega
                          rw [this]; rfl
                      have hown1 := st.own.alloc (.cells #[.int .u32 (dn : Int)] 81)
                      have hle1 := st.le
                      have hbel := st.bel
                      have hdg := st.digs.snoc hBB
                      have HS := hide hsum
                      clear hsum hsplit hlt hpd hpl HDN
                      go_wp2_with (at_builtin; refine wpList_append_dig rfl (.tmp 69) (.tmp 71) rfl (w.heap.size + 1) _ ds rfl hown1 ⟨_, 0, none⟩ dn rfl ?c1 ?c2 ?c3 ?_)
                      case c1 => rw [add_plain]; exact (Blk.new _ _ _).cell 0
                      case c2 => omega
                      case c3 => simp; omega
                      intro v' w2 ho2 hb2
                      have hb3 : Below (w.heap.size + 1) wr w2 := ((Below.refl _ _).alloc hle1 _).trans hb2
                      have s2 : PaSt W (w.heap.size + 1) bs v' (ds ++ [dn]) st0 w2 := ⟨ho2, hdg, HS.out, hbel.trans hb3, Nat.le_trans hle1 hb3.size, by omega, by rw [List.length_append, List.length_singleton]; have := HST.out; omega⟩
                      clear hown1 ho2 hb2 hb3
                      go_wp2_with fail
                      go_roundg st0
                      case measure => have := HST.out; omega
                      case rel => exact ⟨_, _, rfl, by have := HST.out; omega, s2⟩
                    · have hj : j < bs.length := by omega
                      have hjs : j < (⟨bs.toArray⟩ : ByteArray).size := by rw [hsz]; exact hj
                      have hix : (⟨bs.toArray⟩ : ByteArray)[j] = bs[j] := rfl
                      have h48 := decB_at HALL.out hj
                      have hdn8 : dn < 100000000 := Nat.lt_of_lt_of_le hlt (show 10 ^ (j - st0) ≤ 10 ^ 8 from Nat.pow_le_pow_right (by decide) (by omega))
                      have HN : Hid (dn * 10 + ((bs[j]).toNat - 48) = decN ((bs.drop st0).take (j + 1 - st0))) := hide (by
                        have e : (bs.drop st0).take (j + 1 - st0) = (bs.drop st0).take (j - st0) ++ [bs[j]] := by
                          rw [show j + 1 - st0 = (j - st0) + 1 by omega, List.take_succ_eq_append_getElem (by simp; omega)]
                          congr 2
                          simp
                          congr 1
                          omega
                        rw [e, decN_snoc, ← HDN.out])
                      generalize bs[j] = c at hix h48 HN
                      obtain ⟨q, hq⟩ : ∃ q : Nat, q = c.toNat - 48 := ⟨_, rfl⟩
                      rw [← hq] at HN
                      have hq1 : (c.toNat : Int) - 48 = (q : Int) := by omega
                      have hq9 : q ≤ 9 := by omega
                      have hu1 : IntKind.u32.wrap ((dn : Int) * 10) = ((dn * 10 : Nat) : Int) := by rw [IntWalk.u32_in _ (by omega)]; omega
                      have hu2 : IntKind.u32.wrap (((dn * 10 : Nat) : Int) + (q : Int)) = ((dn * 10 + q : Nat) : Int) := by rw [IntWalk.u32_in _ (by omega)]; omega
                      clear hlt hpd hpl HDN hq
                      go_wp2_with fail
                      go_roundg (gk - 1)
                      case measure => omega
                      case rel => exact ⟨rfl, j + 1, by omega, by omega, by go_num, dn * 10 + q, by go_num, HN⟩
            · have hj : j < bs.length := by omega
              have hjs : j < (⟨bs.toArray⟩ : ByteArray).size := by rw [hsz]; exact hj
              have hix : (⟨bs.toArray⟩ : ByteArray)[j] = bs[j] := rfl
              have HD1 : Hid (decB bs[j] = true → (bs.take (j + 1)).all decB = true) := hide (fun h => by rw [List.take_succ_eq_append_getElem hj, List.all_append, HT.out]; simp [h])
              have HD0 : Hid (decB bs[j] = false → ok = false) := hide (fun h => by
                rw [HOK2.out]
                exact List.all_eq_false.2 ⟨_, List.getElem_mem hj, by simp [h]⟩)
              generalize bs[j] = c at hix HD1 HD0
              cases hdc : decB c with
              | true =>
                have h48 : 48 ≤ c.toNat ∧ c.toNat ≤ 57 := by simpa [decB] using hdc
                have t1 : decide ((c.toNat : Int) < 48) = false := by simp; omega
                have t2 : decide ((57 : Int) < (c.toNat : Int)) = false := by simp; omega
                have t3 : ¬ (c.toNat : Int) < 48 := by omega
                have t4 : ¬ (57 : Int) < (c.toNat : Int) := by omega
                have HV := hide (HD1.out hdc)
                clear HD1 HD0 hdc HT
                go_wp2_with fail
                go_roundg (gk - 1)
                case measure => omega
                case rel => exact ⟨rfl, j + 1, by omega, by go_num, HV⟩
              | false =>
                have HV := hide (HFAIL.out (HD0.out hdc))
                have h48 : c.toNat < 48 ∨ 57 < c.toNat := by
                  rcases Nat.lt_or_ge c.toNat 48 with h | h
                  · exact .inl h
                  · refine .inr ?_
                    rcases Nat.lt_or_ge 57 c.toNat with h' | h'
                    · exact h'
                    · exfalso; rw [decB, decide_eq_true h, decide_eq_true h'] at hdc; cases hdc
                clear HD1 HD0 hdc HT
                by_cases h1 : c.toNat < 48
                · have t1 : decide ((c.toNat : Int) < 48) = true := by simp; omega
                  have t3 : (c.toNat : Int) < 48 := by omega
                  go_wp2_with fail
                  refine bodyPost_ret (v := .tuple #[.agg #[.bool false, .slice none 0 0], .bool false]) (by simp [results, Tryd.results12, go_sem, e0, e1]) rfl ?_
                  exact HV.out
                · have t1 : decide ((c.toNat : Int) < 48) = false := by simp; omega
                  have t2 : decide ((57 : Int) < (c.toNat : Int)) = true := by simp; omega
                  have t3 : ¬ (c.toNat : Int) < 48 := by omega
                  have t4 : (57 : Int) < (c.toNat : Int) := by omega
                  go_wp2_with fail
                  refine bodyPost_ret (v := .tuple #[.agg #[.bool false, .slice none 0 0], .bool false]) (by simp [results, Tryd.results12, go_sem, e0, e1]) rfl ?_
                  exact HV.out
end Go.Proofs.YthpibilefdmemaaDoor
