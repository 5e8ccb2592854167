/- The reference's Word, by its contract. -/
import Derived.Test.YtajlibegalbbmaaDoorWord
import Derived.Deep.RegionHeld
namespace Go.Proofs.YtajlibegalbbmaaDoor
open Go.RowKit

/-- A word that is read as one token, of this kind and text, at its beginning. -/
def rtriedT (k : Int) (t s : List UInt8) : Bool := match lex s with
  | .ok [(k', t', p)] => decide ((k' : Int) = k) && decide (t' = t) && decide (p = 0)
  | _ => false
/-- The reference tries words in turn. -/
def rgo (k : Int) (t : List UInt8) : Nat → List (List UInt8) → Option (List UInt8)
  | _, [] => none
  | i, s :: r => if i = 1 ∧ k ≠ 3 then none else if rtriedT k t s then some s else rgo k t (i + 1) r

def ws0 (t : List UInt8) : List (List UInt8) := [t, 124 :: (t ++ [124])]
def ws1 (k : Int) (t : List UInt8) : List (List UInt8) := if k = 7 then [35 :: 120 :: t] else ws0 t
def ws2 (k : Int) (t : List UInt8) : List (List UInt8) := if k = 8 then [35 :: 98 :: t] else ws1 k t
def ws3 (k : Int) (t : List UInt8) : List (List UInt8) := if k = 10 then [58 :: t] else ws2 k t
def ws4 (k : Int) (t : List UInt8) : List (List UInt8) := if k = 9 then [34 :: (escT t ++ [34])] else ws3 k t

theorem lex_of_tok {s : List UInt8} {k : Nat} {t : List UInt8} (h : tokT s = .ok (k, t, s.length)) : lex s = .ok [(k, t, 0)] := by
  have hs := tok_skip h
  have hp := tok_pos h
  unfold lex
  rw [hs, lexFrom, if_pos hp, List.drop_zero, h]
  simp only
  rw [lexFrom_end (by omega)]

theorem rtried_of {k : Int} {t s : List UInt8} (h : triedT k t s = true → ∃ k' : Nat, (k' : Int) = k ∧ tokT s = .ok (k', t, s.length)) : rtriedT k t s = triedT k t s := by
  cases ht : triedT k t s with
  | true =>
    obtain ⟨k', hk, htok⟩ := h ht
    unfold rtriedT
    rw [lex_of_tok htok]
    simp [hk]
  | false =>
    unfold rtriedT
    unfold triedT at ht
    split
    · rename_i k' t' p hl
      rw [hl] at ht
      simp only at ht
      rw [ht]; rfl
    · rfl

theorem rword_eq (k : Int) (t : List UInt8) : rgo k t 0 (ws4 k t) = wordT k t := by
  by_cases h3 : k = 3
  · subst h3
    have e1 : rtriedT 3 t t = triedT 3 t t := rtried_of (fun h => tried_plain h (by omega))
    have e2 : rtriedT 3 t (124 :: (t ++ [124])) = triedT 3 t (124 :: (t ++ [124])) := rtried_of (fun h => tried_bar h)
    simp [ws4, ws3, ws2, ws1, ws0, wordT, rgo, e1, e2]
  · by_cases h7 : k = 7
    · subst h7
      have e1 : rtriedT 7 t (35 :: 120 :: t) = triedT 7 t (35 :: 120 :: t) := rtried_of (fun h => tried_bits h (.inl rfl))
      simp [ws4, ws3, ws2, ws1, wordT, rgo, e1]
    · by_cases h8 : k = 8
      · subst h8
        have e1 : rtriedT 8 t (35 :: 98 :: t) = triedT 8 t (35 :: 98 :: t) := rtried_of (fun h => tried_bits h (.inr rfl))
        simp [ws4, ws3, ws2, wordT, rgo, e1]
      · by_cases h9 : k = 9
        · subst h9
          have e1 : rtriedT 9 t (34 :: (escT t ++ [34])) = triedT 9 t (34 :: (escT t ++ [34])) := rtried_of (fun h => tried_quo h rfl)
          simp [ws4, wordT, rgo, e1]
        · by_cases h10 : k = 10
          · subst h10
            have e1 : rtriedT 10 t (58 :: t) = triedT 10 t (58 :: t) := rtried_of (fun h => tried_key h rfl)
            simp [ws4, ws3, wordT, rgo, e1]
          · have e : rtriedT k t t = triedT k t t := rtried_of (fun h => by
              have := triedT_kinds h
              exact tried_plain h (by omega))
            simp [ws4, ws3, ws2, ws1, ws0, wordT, rgo, e, h3, h7, h8, h9, h10]

theorem cat (a b : List UInt8) : (⟨a.toArray⟩ ++ ⟨b.toArray⟩ : ByteArray) = ⟨(a ++ b).toArray⟩ := by
  apply ByteArray.ext
  simp [ByteArray.data_append]

/-- A slice of words. -/
def Words (wr : World) (v : Value) (ws : List (List UInt8)) : Prop := ∃ g, v = .slice (some ⟨g, 0, none⟩) ws.length ws.length ∧ Blk wr g 9 (ws.map fun s => Value.string ⟨s.toArray⟩).toArray

def RwSt (w : World) (k : Int) (t : List UInt8) (a : Int) (ws : List (List UInt8)) (v : Value) (wr : World) : Prop :=
  Words wr v ws ∧ Blk wr w.heap.size 23 #[.int .i64 k, .string ⟨t.toArray⟩, .int .i64 a] ∧ Below w.heap.size w wr

theorem RwSt.start (w : World) (k : Int) (t : List UInt8) (a : Int) (ws : List (List UInt8)) (l : List Value) (hl : l = ws.map fun s => Value.string ⟨s.toArray⟩) (n : Nat) (hn : n = ws.length) :
    RwSt w k t a ws (.slice (some ⟨w.heap.size + 1, 0, none⟩) n n) ((w.alloc (.cells #[.int .i64 k, .string ⟨t.toArray⟩, .int .i64 a] 23)).alloc (.cells l.toArray 9)) := by
  subst hl hn
  refine ⟨⟨w.heap.size + 1, rfl, ?_⟩, (Blk.new w _ _).alloc _, ((Below.refl _ _).alloc (Nat.le_refl _) _).alloc (by simp) _⟩
  have := Blk.new (w.alloc (.cells #[.int .i64 k, .string ⟨t.toArray⟩, .int .i64 a] 23)) 9 (ws.map fun s => Value.string ⟨s.toArray⟩).toArray
  rw [World.size_alloc] at this
  exact this
theorem RwSt.again {w wr : World} {k : Int} {t : List UInt8} {a : Int} {ws : List (List UInt8)} {v : Value} (h : RwSt w k t a ws v wr) (s : List UInt8) (x : ByteArray) (hx : x = ⟨s.toArray⟩) :
    RwSt w k t a [s] (.slice (some ⟨wr.heap.size, 0, none⟩) 1 1) (wr.alloc (.cells #[.string x] 9)) := by
  subst hx
  exact ⟨⟨wr.heap.size, rfl, Blk.new wr _ _⟩, h.2.1.alloc _, h.2.2.alloc h.2.2.size _⟩

theorem escT_snoc (l : List UInt8) (c : UInt8) : escT (l ++ [c]) = escT l ++ if quoteB c then [c, 34] else [c] := by
  induction l with
  | nil => simp only [List.nil_append, escT]
  | cons d l ih =>
    simp only [List.cons_append, escT, ih]
    split <;> simp
theorem one_byte (t : List UInt8) (j : Nat) (hj : j < t.length) : (⟨t.toArray⟩ : ByteArray).extract j (j + 1) = ⟨[t[j]].toArray⟩ := by
  apply ByteArray.ext
  simp only [ByteArray.data_extract]
  apply Array.ext'
  rw [show (t.toArray.extract j (j + 1)).toList = (t.drop j).take 1 from by simp, List.drop_eq_getElem_cons hj]
  rfl
theorem esc_no {t : List UInt8} {j : Nat} (hj : j < t.length) (h : ((((⟨t.toArray⟩ : ByteArray)[j]'(by simpa [ByteArray.size] using hj)).toNat : Int) == 34) = false) :
    (⟨(34 :: escT (t.take j)).toArray⟩ ++ (⟨t.toArray⟩ : ByteArray).extract j (j + 1) : ByteArray) = ⟨(34 :: escT (t.take (j + 1))).toArray⟩ := by
  have hq : quoteB t[j] = false := by
    unfold quoteB
    have h' : ((t[j].toNat : Int) == 34) = false := h
    simp at h' ⊢
    omega
  rw [one_byte t j hj, cat, List.take_succ_eq_append_getElem hj, escT_snoc, hq]
  rfl
theorem esc_yes {t : List UInt8} {j : Nat} (hj : j < t.length) (h : ((((⟨t.toArray⟩ : ByteArray)[j]'(by simpa [ByteArray.size] using hj)).toNat : Int) == 34) = true) :
    (⟨(34 :: escT (t.take j)).toArray⟩ ++ (⟨t.toArray⟩ : ByteArray).extract j (j + 1) ++ ⟨#[34]⟩ : ByteArray) = ⟨(34 :: escT (t.take (j + 1))).toArray⟩ := by
  have hq : quoteB t[j] = true := by
    unfold quoteB
    have h' : ((t[j].toNat : Int) == 34) = true := h
    simp at h' ⊢
    omega
  rw [one_byte t j hj, cat (34 :: escT (t.take j)) [t[j]]]
  refine (cat _ [34]).trans ?_
  have e34 : t[j] = 34 := by
    unfold quoteB at hq
    exact UInt8.toNat.inj (by simpa using hq)
  rw [List.take_succ_eq_append_getElem hj, escT_snoc, hq, e34]
  simp

theorem ws4_len (k : Int) (t : List UInt8) (ht : t.length ≤ 4000000) : ∀ s ∈ ws4 k t, s.length ≤ 10000000 := by
  have := escT_len t
  unfold ws4 ws3 ws2 ws1 ws0
  intro s hs
  split at hs
  · simp at hs; subst hs; simp; omega
  · split at hs
    · simp at hs; subst hs; simp; omega
    · split at hs
      · simp at hs; subst hs; simp; omega
      · split at hs
        · simp at hs; subst hs; simp; omega
        · simp at hs
          rcases hs with rfl | rfl
          · omega
          · simp; omega
theorem ws4_two (k : Int) (t : List UInt8) : (ws4 k t).length ≤ 2 := by
  unfold ws4 ws3 ws2 ws1 ws0
  repeat' split
  all_goals simp

theorem rread_conv (W : World) (s : List UInt8) (cap : Nat) (fr : Nat × Nat) (hle : s.length ≤ cap) (hs : s.length ≤ 10000000) :
    Calls Tryd.prog 25 #[.slice (some ⟨W.heap.size, 0, none⟩) s.length cap, .int .i64 (s.length : Int)] ((W.alloc (.cells (bytesRow ⟨s.toArray⟩ cap) 5 fr)).drew.drew) fun e w' =>
      ∃ la lc, e = .returned (.tuple #[.slice la (resT (s.length : Int) s).2.2.length lc, .int .i64 (resT (s.length : Int) s).1, .int .i64 (resT (s.length : Int) s).2.1]) ∧ TokRow w' la (resT (s.length : Int) s).2.2 ∧ Below W.heap.size W w' := by
  have tx := (txt_bytes W s cap fr).drew'.drew'
  refine (rread_any _ _ cap s (s.length : Int) tx hle (by omega)).mono fun e w' hp => ?_
  obtain ⟨hb, la, lc, he, hrow⟩ := rread_sum hp
  have h1 : Below W.heap.size W ((W.alloc (.cells (bytesRow ⟨s.toArray⟩ cap) 5 fr)).drew.drew) := ((Below.refl _ _).alloc (Nat.le_refl _) _).drew.drew
  exact ⟨la, lc, he, hrow, h1.trans (hb.mono h1.size)⟩
theorem RwSt.below {w wr w' : World} {k : Int} {t : List UInt8} {a : Int} {ws : List (List UInt8)} {v : Value} (h : RwSt w k t a ws v wr) (hb : Below wr.heap.size wr w') : RwSt w k t a ws v w' := by
  obtain ⟨⟨g, h1, h2⟩, h3, h4⟩ := h
  exact ⟨⟨g, h1, h2.below hb h2.lt⟩, h3.below hb h3.lt, h4.trans (hb.mono h4.size)⟩

set_option maxRecDepth 100000 in
set_option maxHeartbeats 16000000 in
theorem rword_any (k : Int) (t : List UInt8) (a : Int) (w : World) (ht : t.length ≤ 4000000) :
    Calls Tryd.prog 10 #[tokAgg k t a] w (WordPost k t w) := by
  generalize hP : WordPost k t w = Post
  have HP := hide hP
  clear hP
  unfold tokAgg
  have s0 := RwSt.start w k t a (ws0 t) [.string ⟨t.toArray⟩, .string (⟨#[124]⟩ ++ ⟨t.toArray⟩ ++ ⟨#[124]⟩)] (by simp [ws0]; exact (cat [124] t ▸ cat (124 :: t) [124])) 2 rfl
  go_enter Tryd.func10, Tryd.ntmps10
  go_upto_if 20 with (fail)
  generalize hW : (w.alloc (.cells #[.int .i64 k, .string ⟨t.toArray⟩, .int .i64 a] 23)).alloc (.cells #[.string ⟨t.toArray⟩, .string (⟨#[124]⟩ ++ ⟨t.toArray⟩ ++ ⟨#[124]⟩)] 9) = W0 at s0 ⊢
  obtain ⟨c0, c1, -, -⟩ := s0.2.1.c3
  clear hW
  go_cut [4] from 21 to 24 (fun v wc => RwSt w k t a (ws1 k t) v wc)
  case first =>
    by_cases hk : k = 7
    · have e1 : (k == 7) = true := by simpa using hk
      have s1 := s0.again (35 :: 120 :: t) (⟨#[35, 120]⟩ ++ ⟨t.toArray⟩) (cat [35, 120] t)
      have hw : ws1 k t = [35 :: 120 :: t] := by unfold ws1; rw [if_pos hk]
      have HW := hide hw
      clear hw hk
      go_wp2_with fail
      go_meet
      rw [HW.out]
      exact s1
    · have e1 : (k == 7) = false := by simpa using hk
      have hw : ws1 k t = ws0 t := by unfold ws1; rw [if_neg hk]
      have HW := hide hw
      clear hw hk
      go_wp2_with fail
      go_meet
      rw [HW.out]
      exact s0
  case rest =>
    obtain ⟨⟨g, rfl, hg⟩, hbx, hB⟩ := hcut
    have s1 : RwSt w k t a (ws1 k t) _ _ := ⟨⟨g, rfl, hg⟩, hbx, hB⟩
    clear s0 c0 c1
    obtain ⟨c0, c1, -, -⟩ := hbx.c3
    clear hbx hB hg
    go_upto_if 27 with (fail)
    go_cut [4] from 28 to 31 (fun v wc => RwSt w k t a (ws2 k t) v wc)
    case first =>
      by_cases hk : k = 8
      · have e1 : (k == 8) = true := by simpa using hk
        have s1 := s1.again (35 :: 98 :: t) (⟨#[35, 98]⟩ ++ ⟨t.toArray⟩) (cat [35, 98] t)
        have hw : ws2 k t = [35 :: 98 :: t] := by unfold ws2; rw [if_pos hk]
        have HW := hide hw
        clear hw hk
        go_wp2_with fail
        go_meet
        rw [HW.out]
        exact s1
      · have e1 : (k == 8) = false := by simpa using hk
        have hw : ws2 k t = ws1 k t := by unfold ws2; rw [if_neg hk]
        have HW := hide hw
        clear hw hk
        go_wp2_with fail
        go_meet
        rw [HW.out]
        exact s1
    case rest =>
      obtain ⟨⟨g, rfl, hg⟩, hbx, hB⟩ := hcut
      have s2 : RwSt w k t a (ws2 k t) _ _ := ⟨⟨g, rfl, hg⟩, hbx, hB⟩
      clear s1 c0 c1
      obtain ⟨c0, c1, -, -⟩ := hbx.c3
      clear hbx hB hg
      go_upto_if 34 with (fail)
      go_cut [4] from 35 to 38 (fun v wc => RwSt w k t a (ws3 k t) v wc)
      case first =>
        by_cases hk : k = 10
        · have e1 : (k == 10) = true := by simpa using hk
          have s1 := s2.again (58 :: t) (⟨#[58]⟩ ++ ⟨t.toArray⟩) (cat [58] t)
          have hw : ws3 k t = [58 :: t] := by unfold ws3; rw [if_pos hk]
          have HW := hide hw
          clear hw hk
          go_wp2_with fail
          go_meet
          rw [HW.out]
          exact s1
        · have e1 : (k == 10) = false := by simpa using hk
          have hw : ws3 k t = ws2 k t := by unfold ws3; rw [if_neg hk]
          have HW := hide hw
          clear hw hk
          go_wp2_with fail
          go_meet
          rw [HW.out]
          exact s2
      case rest =>
        obtain ⟨⟨g, rfl, hg⟩, hbx, hB⟩ := hcut
        have s3 : RwSt w k t a (ws3 k t) _ _ := ⟨⟨g, rfl, hg⟩, hbx, hB⟩
        clear s2 c0 c1
        obtain ⟨c0, c1, -, -⟩ := hbx.c3
        clear hbx hB hg
        go_upto_if 41 with (fail)
        generalize hb9 : (k == 9) = b9
        have HB9 := hide hb9
        clear hb9
        go_cut [4, 5, 6] from 42 to 66 (fun v _ _ wc => RwSt w k t a (ws4 k t) v wc)
        case first =>
          cases b9 with
          | true =>
            have hk : k = 9 := by simpa using HB9.out
            have s4 := s3.again (34 :: (escT t ++ [34])) (⟨(34 :: escT t).toArray⟩ ++ ⟨#[34]⟩) (cat (34 :: escT t) [34])
            have hw : ws4 k t = [34 :: (escT t ++ [34])] := by unfold ws4; rw [if_pos hk]
            have HW := hide hw
            clear hw hk
            have hesc := escT_len t
            go_wp2_with fail
            go_loop [5, 6] (fun x i => ∃ j : Nat, j ≤ t.length ∧ i = .int .i64 j ∧ x = .string ⟨(34 :: escT (t.take j)).toArray⟩) (fun _ i => t.length - (intOf i).toNat)
            case atStart => exact ⟨0, Nat.zero_le _, rfl, by simp [escT]⟩
            case round =>
              obtain ⟨j, hj, rfl, rfl⟩ := hrel
              by_cases hlt : j < t.length
              · have hle := escT_len (t.take j)
                have hlt2 : (t.take j).length ≤ j := List.length_take_le _ _
                go_wp2_with fail
                all_goals
                  go_round
                  case rel => exact ⟨j + 1, by omega, by go_num, congrArg Value.string (by first | exact esc_no hlt ‹_› | exact esc_yes hlt ‹_›)⟩
                  case measure => simp [intOf]; omega
              · have hle := escT_len (t.take j)
                have hlt2 : (t.take j).length ≤ j := List.length_take_le _ _
                have hjt : t.take j = t := List.take_of_length_le (by omega)
                have HJ := hide hjt
                clear hjt
                go_wp2_with fail
                go_meet
                rw [HW.out, HJ.out]
                exact s4
          | false =>
            have hk : ¬ k = 9 := by simpa using HB9.out
            have hw : ws4 k t = ws3 k t := by unfold ws4; rw [if_neg hk]
            have HW := hide hw
            clear hw hk
            go_wp2_with fail
            go_meet
            rw [HW.out]
            exact s3
        case rest =>
          obtain ⟨⟨g, rfl, hg⟩, hbx, hB⟩ := hcut
          have s4 : RwSt w k t a (ws4 k t) _ _ := ⟨⟨g, rfl, hg⟩, hbx, hB⟩
          have HE := hide (rword_eq k t)
          have hwl : ∀ s ∈ ws4 k t, s.length ≤ 10000000 := ws4_len k t ht
          have hn : (ws4 k t).length ≤ 2 := ws4_two k t
          clear s3 c0 c1 hbx hB hg
          generalize ws4 k t = ws at s4 HE hwl hn ⊢
          go_wp2_with fail
          go_loopg [7] ws.length (fun r v wr => ∃ i : Nat, i + r = ws.length ∧ v = .int .i64 (i : Int) ∧ Hid (rgo k t i (ws.drop i) = wordT k t) ∧ RwSt w k t a ws (.slice (some ⟨g, 0, none⟩) ws.length ws.length) wr)
          case atStart => exact ⟨0, by omega, rfl, HE, s4⟩
          case round =>
            obtain ⟨i, hik, rfl, HG, s5⟩ := hrel
            have HK := hide hik
            obtain ⟨⟨g', hgg, hg⟩, hbx, hB⟩ := s5
            obtain rfl : g = g' := by injection hgg with h1; injection h1 with h1; injection h1
            clear hgg
            have s5 : RwSt w k t a ws (.slice (some ⟨g, 0, none⟩) ws.length ws.length) wr := ⟨⟨g, rfl, hg⟩, hbx, hB⟩
            obtain ⟨c0, c1, -, -⟩ := hbx.c3
            rcases Nat.lt_or_ge i ws.length with hi | hi
            · have hdrop := List.drop_eq_getElem_cons hi
              have HG2 : Hid (rgo k t i (ws[i] :: ws.drop (i + 1)) = wordT k t) := hide (by rw [← hdrop]; exact HG.out)
              have hs := hwl _ (List.getElem_mem hi)
              have hcell : wr.cell? ⟨g, i, none⟩ = some (.string ⟨ws[i].toArray⟩) := by
                rw [hg.cell i]; simp [List.getElem?_eq_getElem hi]
              have hgl := hg.lt
              have hbl := hbx.lt
              have hsi := List.getElem?_eq_getElem hi
              generalize ws[i] = s at HG2 hs hcell hsi
              have HSI := hide hsi
              clear hsi
              clear hdrop hik HG HE hwl s4
              go_upto_region 20 with (fail)
              go_cut [79] from 73 to 78 (fun v wc => v = .bool (decide (i = 1 ∧ k ≠ 3)) ∧ wr = wc)
              case first =>
                by_cases h1 : i = 1
                · subst h1
                  by_cases h3 : k = 3
                  · subst h3
                    go_wp2_with fail
                    go_meet
                    exact ⟨rfl, rfl⟩
                  · have e1 : (k != 3) = true := by simpa using h3
                    go_wp2_with fail
                    go_meet
                    exact ⟨by simp [h3], rfl⟩
                · have e1 : ((i : Int) == 1) = false := by simp; omega
                  have e2 : ¬ (i : Int) = 1 := by omega
                  go_wp2_with fail
                  go_meet
                  exact ⟨by simp [h1], rfl⟩
              case rest =>
                obtain ⟨rfl, rfl⟩ := hcut
                by_cases hbad : i = 1 ∧ k ≠ 3
                · have hd : decide (i = 1 ∧ k ≠ 3) = true := by simpa using hbad
                  rw [hd]
                  have hz : wordT k t = none := by rw [← HG2.out, rgo, if_pos hbad]
                  have HZ := hide hz
                  clear hz hd hbad
                  go_wp2_with fail
                  rw [← HP.out]
                  exact ⟨by rw [HZ.out]; rfl, hB⟩
                · have hd : decide (i = 1 ∧ k ≠ 3) = false := by simpa using hbad
                  rw [hd]
                  have hz : (if rtriedT k t s then some s else rgo k t (i + 1) (ws.drop (i + 1))) = wordT k t := by rw [← HG2.out, rgo, if_neg hbad]
                  have HZ := hide hz
                  clear hz hd hbad HG2
                  go_upto_region 22 with (fail)
                  go_cut [8, 9, 10] from 80 to 94 (fun v8 v9 _ wc => ∃ la lc, v8 = .slice la (resT (s.length : Int) s).2.2.length lc ∧ v9 = .int .i64 (resT (s.length : Int) s).1 ∧ TokRow wc la (resT (s.length : Int) s).2.2 ∧ RwSt w k t a ws (.slice (some ⟨g, 0, none⟩) ws.length ws.length) wc)
                  case first =>
                    have kb := fun (w : World) (s : ByteArray) => run_bytes_of_string (P := Tryd.prog) w 9 24 5 s Tryd.underlying9 Tryd.underlying24 Tryd.underlying5
                    go_region_held (fun w' => w'.cell? ⟨g, i, none⟩ = some (.string ⟨s.toArray⟩)) (first | go_keep | (rw [hb2.cell (by simpa using hgl)]; assumption)) ((go_at_call 25; refine (rread_conv wr s _ _ (grownCap_ge _ _ _ _) hs).mono ?_; rintro e w2 ⟨la, lc, rfl, hrow, hb2⟩))
                    go_wp2_with fail
                    go_meet
                    exact ⟨la, lc, rfl, rfl, hrow, s5.below hb2⟩
                  case rest =>
                    obtain ⟨la, lc, rfl, rfl, hrow, s6⟩ := hcut
                    clear s5 hbx hB hg c0 c1 hcell
                    obtain ⟨⟨g', hgg, hg⟩, hbx, hB⟩ := s6
                    obtain rfl : g = g' := by injection hgg with h1; injection h1 with h1; injection h1
                    clear hgg
                    obtain ⟨c0, c1, -, -⟩ := hbx.c3
                    have s6 : RwSt w k t a ws (.slice (some ⟨g, 0, none⟩) ws.length ws.length) _ := ⟨⟨g, rfl, hg⟩, hbx, hB⟩
                    have hcell := hg.cell i
                    rw [List.getElem?_toArray, List.getElem?_map, HSI.out] at hcell
                    simp only [Option.map_some] at hcell
                    generalize hres : resT (s.length : Int) s = res at hrow ⊢
                    obtain ⟨rc, ra, toks⟩ := res
                    simp only at hrow ⊢
                    have HRES := hide hres
                    clear hres
                    go_upto_region 23 with (fail)
                    go_cut [126] from 95 to 125 (fun v wd => v = .bool (rtriedT k t s) ∧ ∃ m, wd = wc.drewN m)
                    case first =>
                      cases hx : lex s with
                      | error o =>
                        have hno : rtriedT k t s = false := by unfold rtriedT; rw [hx]
                        have HNO := hide hno
                        have hre := HRES.out
                        rw [res_err (by omega) hx] at hre
                        simp only [Prod.mk.injEq] at hre
                        obtain ⟨rfl, rfl, rfl⟩ := hre
                        clear hno hx HRES
                        go_quiet (fail)
                        go_wp2_with fail
                        go_meet
                        exact ⟨by rw [HNO.out], _, rfl⟩
                      | ok l =>
                        have hre := HRES.out
                        rw [res_ok (by omega) hx] at hre
                        simp only [Prod.mk.injEq] at hre
                        obtain ⟨rfl, rfl, rfl⟩ := hre
                        clear HRES
                        by_cases hl : l.length = 1
                        · obtain ⟨⟨k', t', p'⟩, rfl⟩ := List.length_eq_one_iff.1 hl
                          have hyes : rtriedT k t s = (decide ((k' : Int) = k) && decide (t' = t) && decide (p' = 0)) := by unfold rtriedT; rw [hx]
                          have HY := hide hyes
                          clear hyes hx hl
                          obtain ⟨b, off, rfl, hc⟩ := hrow (by simp)
                          obtain ⟨x0, x1, x2⟩ := hc 0 (by simp)
                          simp at x0 x1 x2
                          clear hc hrow
                          by_cases hk : (k' : Int) = k
                          · have e1 : ((k' : Int) == k) = true := by simpa using hk
                            by_cases ht' : t' = t
                            · have e2 : (t' == t) = true := by simpa using ht'
                              by_cases hp : p' = 0
                              · have e3 : ((p' : Int) == 0) = true := by simp; omega
                                have HV : Hid (rtriedT k t s = true) := hide (by rw [HY.out]; simp [hk, ht', hp])
                                clear HY hk ht' hp
                                go_quiet (fail)
                                go_wp2_with fail
                                go_meet
                                exact ⟨by rw [HV.out], _, rfl⟩
                              · have e3 : ((p' : Int) == 0) = false := by simp; omega
                                have HV : Hid (rtriedT k t s = false) := hide (by rw [HY.out]; simp [hp])
                                clear HY hk ht' hp
                                go_quiet (fail)
                                go_wp2_with fail
                                go_meet
                                exact ⟨by rw [HV.out], _, rfl⟩
                            · have e2 : (t' == t) = false := by simpa using ht'
                              have HV : Hid (rtriedT k t s = false) := hide (by rw [HY.out]; simp [ht'])
                              clear HY hk ht'
                              go_quiet (fail)
                              go_wp2_with fail
                              go_meet
                              exact ⟨by rw [HV.out], _, rfl⟩
                          · have e1 : ((k' : Int) == k) = false := by simpa using hk
                            have HV : Hid (rtriedT k t s = false) := hide (by rw [HY.out]; simp [hk])
                            clear HY hk
                            go_quiet (fail)
                            go_wp2_with fail
                            go_meet
                            exact ⟨by rw [HV.out], _, rfl⟩
                        · have hno : rtriedT k t s = false := by
                            unfold rtriedT; rw [hx]
                            match l, hl with
                            | [], _ => rfl
                            | [x], h => exact absurd rfl h
                            | _ :: _ :: _, _ => rfl
                          have HNO := hide hno
                          have e1 : ((l.length : Int) == 1) = false := by simp; omega
                          have e2 : (l.length == 1) = false := by simpa using hl
                          clear hno hx hl hrow
                          go_quiet (fail)
                          go_wp2_with fail
                          go_meet
                          exact ⟨by rw [HNO.out], _, rfl⟩
                    case rest =>
                      obtain ⟨rfl, m, rfl⟩ := hcut
                      cases hr : rtriedT k t s with
                      | true =>
                        have hz : wordT k t = some s := by rw [← HZ.out, if_pos hr]
                        have HZ2 := hide hz
                        clear hz hr HZ
                        go_wp2_with fail
                        rw [← HP.out]
                        exact ⟨by rw [HZ2.out]; rfl, below_drewN hB _⟩
                      | false =>
                        have hz : rgo k t (i + 1) (ws.drop (i + 1)) = wordT k t := by rw [← HZ.out, if_neg (by rw [hr]; decide)]
                        have HZ2 := hide hz
                        clear hz hr HZ
                        go_wp2_with fail
                        have hik := HK.out
                        go_roundg (gk - 1)
                        case measure => omega
                        case rel => exact ⟨i + 1, by omega, by go_num, HZ2, ⟨g, rfl, hg.drewN m⟩, hbx.drewN m, below_drewN hB m⟩
            · have hz : wordT k t = none := by rw [← HG.out, List.drop_of_length_le hi]; rfl
              have HZ := hide hz
              clear hz HG HE s4 hik
              go_wp2_with fail
              rw [← HP.out]
              exact ⟨by rw [HZ.out]; rfl, hB⟩
end Go.Proofs.YtajlibegalbbmaaDoor
