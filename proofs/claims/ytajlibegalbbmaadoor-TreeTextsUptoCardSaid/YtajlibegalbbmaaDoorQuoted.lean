/- The method that reads a string. -/
import Derived.Test.YtajlibegalbbmaaDoorToks2
import Derived.Test.YtajlibegalbbmaaDoorBuilder
namespace Go.Proofs.YtajlibegalbbmaaDoor
open Go.RowKit

section
variable {w : World} {R : Nat} {ta : Option Addr} {cap : Nat} {bs : List UInt8} {p : Nat}

theorem isBuilder_grown {B b : Nat} {xs : List Value} {W W' : World} {R : Nat} (h : IsBuilder B b xs W) (hg : W.grownBy W' (some R)) (hR : R < B) : IsBuilder B b xs W' := by
  have key : ∀ p, BuilderAt B b p xs W → BuilderAt B b p xs W' := by
    rintro p ⟨hB, v, hb, hown, hne⟩
    have hlt : b < W.heap.size := by
      rcases Nat.lt_or_ge b W.heap.size with h' | h'
      · exact h'
      · simp [Array.getElem?_eq_none h'] at hb
    refine ⟨hB, v, (hg.block b hlt (by simp; omega)).trans hb, hown.kept hg ?_, hne⟩
    cases ho : v.ownBlock with
    | none => exact .inl rfl
    | some k =>
      right
      have := (hown.lt k ho).1
      simp
      omega
  exact h.imp (key _) (key _)

/-- How things stand within the method that reads a string. -/
structure Qs (w : World) (R : Nat) (ta : Option Addr) (cap : Nat) (bs : List UInt8) (q : Nat) (acc : List UInt8) (W : World) : Prop where
  st : St w R ta cap bs q W
  bd : IsBuilder (w.heap.size + 1) (w.heap.size + 1) (Lib.byteCells acc) W

section
variable {q : Nat} {acc : List UInt8} {W W' : World}
theorem Qs.drewN (s : Qs w R ta cap bs q acc W) (n : Nat) : Qs w R ta cap bs q acc (W.drewN n) := ⟨s.st.drewN n, s.bd⟩
theorem Qs.after (s : Qs w R ta cap bs q acc W) {q' : Nat} (hr : Rd W' R ta cap bs q') (hg : W.grownBy W' (some R)) : Qs w R ta cap bs q' acc W' :=
  ⟨s.st.after hr hg, isBuilder_grown s.bd hg (by have := s.st.lt; omega)⟩
theorem Qs.move (s : Qs w R ta cap bs q acc W) {q' : Nat} {z : Int} (hz : z = (q' : Int)) (hq : q' ≤ bs.length) : Qs w R ta cap bs q' acc (W.setCell ⟨R, 1, none⟩ (.int .i64 z)) :=
  s.after (s.st.rd.move hz hq) (only_setCell (only_refl _ _) (.inl rfl) _)
theorem St.below {q : Nat} {W W' : World} (s : St w R ta cap bs q W) (hb : Below (w.heap.size + 1) W W') : St w R ta cap bs q W' :=
  ⟨s.rd.keep fun k hk => hb.block k (by have := s.lt; omega), ⟨hb.os.trans s.gr.os, hb.tape.trans s.gr.tape, hb.output.trans s.gr.output, Nat.le_trans s.gr.size hb.size, fun i hi hne => (hb.block i (by omega)).trans (s.gr.block i hi hne)⟩,
    s.box.below hb (by omega), s.lt⟩
theorem Qs.wrote (s : Qs w R ta cap bs q acc W) {acc' : List UInt8} (hb : Below (w.heap.size + 1) W W') (h : BuilderAt (w.heap.size + 1) (w.heap.size + 1) (.pointer (some ⟨w.heap.size + 1, 0, none⟩)) (Lib.byteCells acc') W') : Qs w R ta cap bs q acc' W' :=
  ⟨s.st.below hb, .inr h⟩
end

theorem Qs.start {W : World} {q : Nat} (s : St w R ta cap bs q W) (hs : W.heap.size = w.heap.size + 1) : Qs w R ta cap bs q [] (W.alloc (.cells #[.pointer none, .slice none 0 0] 65)) :=
  ⟨⟨s.rd.alloc _, only_alloc s.gr _, s.box.alloc _, s.lt⟩, by
    have := Lib.fresh_isBuilder 65 5 W
    rw [hs] at this
    exact this⟩
theorem Qs.size {q : Nat} {acc : List UInt8} {W : World} (s : Qs w R ta cap bs q acc W) : w.heap.size + 1 ≤ W.heap.size := by
  rcases s.bd with h | h <;> (have := h.lt; omega)

theorem quo_run : ∀ (l acc : List UInt8) (n : Nat), quoT l acc n = quoT (l.drop (cnt strB l)) (acc ++ l.takeWhile strB) (n + cnt strB l)
  | [], acc, n => by simp [quoT, cnt]
  | c :: r, acc, n => by
    cases hc : strB c
    · simp [cnt, hc]
    · have hq : quoteB c = false := by
        unfold strB at hc
        unfold quoteB
        simp at hc ⊢
        exact hc.2
      have ht : textB c = true := by
        unfold strB at hc
        simp at hc
        exact hc.1
      have ih := quo_run r (acc ++ [c]) (n + 1)
      have e : quoT (c :: r) acc n = quoT r (acc ++ [c]) (n + 1) := by
        cases r <;> simp [quoT, hq, ht]
      rw [e, ih]
      simp only [cnt, List.takeWhile_cons, hc, if_true, List.length_cons, List.drop_succ_cons, List.append_assoc, List.singleton_append]
      congr 1
      omega

theorem quo_bad {c : UInt8} {r acc : List UInt8} {n : Nat} (hs : strB c = false) (hq : quoteB c = false) : quoT (c :: r) acc n = .error n := by
  have ht : textB c = false := by
    unfold strB at hs
    unfold quoteB at hq
    simp at hs hq
    cases h : textB c
    · rfl
    · exact absurd (hs h) hq
  cases r <;> simp [quoT, hq, ht]
theorem quo_end {c : UInt8} {r acc : List UInt8} {n : Nat} (hq : quoteB c = true) (hr : isAt quoteB r 0 = false) : quoT (c :: r) acc n = .ok (9, acc, n + 1) := by
  cases r with
  | nil => simp [quoT, hq]
  | cons d r =>
    have : quoteB d = false := by simpa [isAt] using hr
    simp [quoT, hq, this]
theorem quo_two {c d : UInt8} {r acc : List UInt8} {n : Nat} (hq : quoteB c = true) (hd : quoteB d = true) : quoT (c :: d :: r) acc n = quoT r (acc ++ [34]) (n + 2) := by
  simp [quoT, hq, hd]

theorem takeWhile_stop {q : UInt8 → Bool} : ∀ {l : List UInt8} {n : Nat}, (l.takeWhile q).length = n → isAt q l n = false
  | [], _, _ => by simp [isAt]
  | c :: l, n, h => by
    cases hc : q c
    · rw [List.takeWhile_cons, hc] at h
      simp at h
      subst h
      simp [isAt, hc]
    · rw [List.takeWhile_cons, hc] at h
      simp at h
      subst h
      have := takeWhile_stop (q := q) (l := l) rfl
      simpa [isAt] using this

def QuoRel (w : World) (R : Nat) (ta : Option Addr) (cap : Nat) (bs : List UInt8) (p : Nat) (k : Nat) (wr : World) : Prop :=
  ∃ q acc, k = bs.length - q ∧ p + 1 ≤ q ∧ acc.length ≤ q ∧ quoT (bs.drop q) acc (q - p) = quoT (bs.drop (p + 1)) [] 1 ∧ Qs w R ta cap bs q acc wr

set_option maxRecDepth 100000 in
set_option maxHeartbeats 1600000 in
theorem quoted_any (h : Rd w R ta cap bs p) (hp : p < bs.length) : Calls Tryd.prog 46 #[.pointer (some ⟨R, 0, none⟩)] w (TokPost w R ta cap bs p (quoT (bs.drop (p + 1)) [] 1)) := by
  have hlt := h.lt
  have h1 := h.cell1
  have hf := h.free 1
  have hfit := h.fit
  have hmax := h.top
  have s1 := St.startMove h (p' := p + 1) (z := (p : Int) + 1) (by omega) (by omega)
  generalize hP : TokPost w R ta cap bs p (quoT (bs.drop (p + 1)) [] 1) = Post
  have HP := hide hP
  clear hP
  go_enter Tryd.func46, Tryd.ntmps46
  go_wp2_with fail
  have hsz : ((w.setCell ⟨R, 1, none⟩ (.int .i64 ((p : Int) + 1))).alloc (.cells zeroTok 23)).heap.size = w.heap.size + 1 := by simp [World.setCell]
  have q1 := Qs.start s1 hsz
  generalize hW : ((w.setCell ⟨R, 1, none⟩ (.int .i64 ((p : Int) + 1))).alloc (.cells zeroTok 23)).alloc (.cells #[.pointer none, .slice none 0 0] 65) = W1 at q1 ⊢
  clear hW s1 h1 hf hsz
  go_loopg [] (bs.length - (p + 1)) (fun k wr => QuoRel w R ta cap bs p k wr)
  case atStart => exact ⟨p + 1, [], rfl, Nat.le_refl _, by simp, by rw [show p + 1 - p = 1 by omega], q1⟩
  case round =>
    obtain ⟨q, acc, hk, hpq, hacc, hquo, s⟩ := hrel
    have HQ := hide hquo
    have HK := hide hk
    clear hquo hk q1
    go_wp2_with fail
    refine (run_any s.st.rd _ _ isInString_any isInString_enters).mono ?_
    rintro e w1 ⟨rfl, hr, hg⟩
    have s2 := s.after hr hg
    clear hr hg s
    generalize ht : (bs.drop q).takeWhile strB = t at s2
    have hn : cnt strB (bs.drop q) = t.length := by unfold cnt; rw [ht]
    generalize hj : q + t.length = j at s2
    have hjl := s2.st.rd.le
    have hsize := s2.size
    have HT := hide ht
    have HN := hide hn
    have HJ := hide hj
    have hqj : q ≤ j := by omega
    have hbd : acc.length + t.length ≤ j := by omega
    clear ht hn hj
    go_wp2_with fail
    refine (writeString_any _ _ _ _ _ s2.bd (by rw [Lib.byteCells_length]; show _ + t.toArray.size ≤ _; simp; omega) hsize).mono ?_
    rintro e w2 ⟨rfl, hB, hbe⟩
    have s3 := s2.wrote (acc' := acc ++ t) hbe (by
      have e : Lib.byteCells acc ++ Lib.strCells ⟨t.toArray⟩ = Lib.byteCells (acc ++ t) := by simp [Lib.byteCells, Lib.strCells]
      rw [e] at hB
      exact hB)
    clear hB hbe s2 hsize
    obtain ⟨⟨h0, h1, hf⟩, c0, c1, c2, cf⟩ := s3.st.facts
    rcases Nat.lt_or_ge j bs.length with hj | hj
    · obtain ⟨b, off, rfl, hbR, hb⟩ := s3.st.rd.byte hj
      have hD := drop_at hj
      have hs : strB bs[j] = false := by
        have h1 := isAt_drop strB bs q t.length
        rw [HJ.out, isAt_lt hj] at h1
        rw [← h1]
        have := HT.out
        exact takeWhile_stop (by rw [← HN.out]; rfl)
      generalize bs[j] = c at hb hD hs
      have HD := hide hD
      have HS := hide hs
      clear hD hs
      have hd : decide (bs.length ≤ j) = false := by simpa using hj
      by_cases hc : c.toNat = 34
      · have e1 : ((c.toNat : Int) != 34) = false := by simp [hc]
        have hcq : quoteB c = true := by simp [quoteB, hc]
        have HC := hide hcq
        clear hc hcq
        have s4 := fun n => (s3.drewN n).move (q' := j + 1) (z := (j : Int) + 1) (by omega) (by omega)
        go_wp2_with fail
        go_quiet (fail)
        go_wp2_with fail
        have s5 := s4 nq
        generalize hW : (w2.drewN nq).setCell ⟨R, 1, none⟩ (.int .i64 ((j : Int) + 1)) = W4 at s5 ⊢
        clear hW s4 s3 h0 h1 hf c0 c1 c2 cf hb
        generalize hm : j + 1 = m at s5
        have HM := hide hm
        clear hm
        have hsize5 := s5.size
        obtain ⟨⟨h0, h1, hf⟩, c0, c1, c2, cf⟩ := s5.st.facts
        rcases Nat.lt_or_ge m bs.length with hm | hm
        · obtain ⟨b2, off2, hbe2, _, hb⟩ := s5.st.rd.byte hm
          injection hbe2 with hbe2
          injection hbe2 with hbe2 hoe2
          subst hbe2 hoe2
          have hD2 := drop_at hm
          have hi := isAt_lt (q := quoteB) hm
          generalize bs[m] = d at hb hD2 hi
          have HD2 := hide hD2
          have HI := hide hi
          clear hD2 hi
          have hd2 : decide (bs.length ≤ m) = false := by simpa using hm
          by_cases hdc : d.toNat = 34
          · have e2 : ((d.toNat : Int) != 34) = false := by simp [hdc]
            have hdq : quoteB d = true := by simp [quoteB, hdc]
            have HC2 := hide hdq
            clear hdc hdq
            have s6 := fun n => (s5.drewN n).move (q' := m + 1) (z := (m : Int) + 1) (by omega) (by omega)
            go_quiet (fail)
            go_wp2_with fail
            refine (writeByte_any _ _ _ _ _ (s6 _).bd (by rw [Lib.byteCells_length]; simp; omega) (s6 _).size).mono ?_
            rintro e w6 ⟨rfl, hB, hbe⟩
            have s7 := (s6 _).wrote (acc' := acc ++ t ++ [34]) hbe (by
              have e : Lib.byteCells (acc ++ t) ++ [.int .u8 34] = Lib.byteCells (acc ++ t ++ [34]) := by simp [Lib.byteCells]
              rw [e] at hB
              exact hB)
            go_wp2_with fail
            have hj := HJ.out
            have hm1 := HM.out
            have hk := HK.out
            go_roundg (bs.length - (m + 1))
            case measure => omega
            case rel =>
              refine ⟨m + 1, acc ++ t ++ [34], rfl, by omega, by simp; omega, ?_, s7⟩
              rw [← HQ.out, quo_run (bs.drop q), List.drop_drop, HN.out, HT.out, hj, HD.out, hm1, HD2.out, quo_two HC.out HC2.out]
              congr 1
              omega
          · have e2 : ((d.toNat : Int) != 34) = true := by simp; omega
            have hdq : quoteB d = false := by simp [quoteB, hdc]
            have HC2 := hide hdq
            clear hdc hdq
            go_quiet (fail)
            go_wp2_with fail
            refine (string_any _ _ _ _ (s5.drewN _).bd hsize5).mono ?_
            rintro e w5 ⟨rfl, hbe⟩
            have s6 := (s5.drewN _).st.below hbe
            obtain ⟨-, c0', c1', c2', cf'⟩ := s6.facts
            go_wp2_with fail
            refine bodyPost_ret (v := tokV 9 (acc ++ t) 0) (by simp [results, Tryd.results46, go_sem, c0', c1', c2', tokV]) rfl ?_
            rw [← HP.out]
            refine post_ok (n := j - p + 1) ?_ ?_
            · rw [← HQ.out, quo_run, List.drop_drop, HN.out, HT.out, HJ.out, HD.out, quo_end HC.out (by rw [HM.out, isAt_next, Nat.add_zero, HI.out, HC2.out])]
              congr 3
              have := HJ.out
              omega
            · rw [show p + (j - p + 1) = m by have := HM.out; omega]
              exact s6.done _ _ _
        · have hd2 : decide (bs.length ≤ m) = true := by simpa using hm
          go_quiet (fail)
          go_wp2_with fail
          refine (string_any _ _ _ _ (s5.drewN _).bd hsize5).mono ?_
          rintro e w5 ⟨rfl, hbe⟩
          have s6 := (s5.drewN _).st.below hbe
          obtain ⟨-, c0', c1', c2', cf'⟩ := s6.facts
          go_wp2_with fail
          refine bodyPost_ret (v := tokV 9 (acc ++ t) 0) (by simp [results, Tryd.results46, go_sem, c0', c1', c2', tokV]) rfl ?_
          rw [← HP.out]
          refine post_ok (n := j - p + 1) ?_ ?_
          · rw [← HQ.out, quo_run, List.drop_drop, HN.out, HT.out, HJ.out, HD.out, quo_end HC.out (by rw [HM.out, isAt_next, Nat.add_zero, isAt_ge hm])]
            congr 3
            have := HJ.out
            omega
          · rw [show p + (j - p + 1) = m by have := HM.out; omega]
            exact s6.done _ _ _
      · have e1 : ((c.toNat : Int) != 34) = true := by simp; omega
        have hcq : quoteB c = false := by simp [quoteB, hc]
        have HC := hide hcq
        clear hc hcq
        go_wp2_with fail
        go_quiet (fail)
        go_wp2_with fail
        refine (fail_any (s3.drewN _).st.rd).mono ?_
        rintro e w' ⟨rfl, rfl⟩
        go_wp2_with fail
        refine ⟨rfl, ?_⟩
        rw [← HP.out]
        refine post_err (o := j - p) ?_ (by omega) (s3.drewN _).st.gr
        rw [← HQ.out, quo_run, List.drop_drop, HN.out, HJ.out]
        rw [HD.out, quo_bad HS.out HC.out]
        congr 1
        have := HJ.out
        omega
    · have hd : decide (bs.length ≤ j) = true := by simpa using hj
      go_wp2_with fail
      go_quiet (fail)
      go_wp2_with fail
      refine (fail_any (s3.drewN _).st.rd).mono ?_
      rintro e w' ⟨rfl, rfl⟩
      go_wp2_with fail
      refine ⟨rfl, ?_⟩
      rw [← HP.out]
      refine post_err (o := j - p) ?_ (by omega) (s3.drewN _).st.gr
      rw [← HQ.out, quo_run, List.drop_drop, HN.out, HJ.out]
      rw [List.drop_of_length_le (by omega)]
      unfold quoT
      congr 1
      have := HJ.out
      omega
end
end Go.Proofs.YtajlibegalbbmaaDoor
