/- token.Word, by its contract. -/
import Derived.Test.YtajlibegalbbmaaDoorTried
import Derived.Test.YtajlibegalbbmaaDoorShelf
import Derived.Deep.RegionWith
import Derived.Lib.Replace
import Derived.Lib.SplitLaws
namespace Go.Proofs.YtajlibegalbbmaaDoor
open Go.RowKit

theorem triedT_kinds {k : Int} {t s : List UInt8} (h : triedT k t s = true) : 1 ≤ k ∧ k ≤ 10 := by
  unfold triedT at h
  split at h
  · rename_i k' t' p hl
    simp only [Bool.and_eq_true, decide_eq_true_eq] at h
    obtain ⟨hk, rfl⟩ := h
    obtain ⟨hp, hps, n, ht⟩ := lex_one hl
    have := (tok_shape ht).lo
    have := (tok_shape ht).hi
    omega
  · cases h

theorem index_cons_ne {c : UInt8} (h : c ≠ 34) (r : List UInt8) : Lib.index (c :: r) [34] = if Lib.index r [34] == -1 then -1 else Lib.index r [34] + 1 := by
  rw [Lib.index_one, Lib.index_one, Lib.indexByte]
  rw [if_neg (by simpa using h)]
theorem replaceK_ne {c : UInt8} (h : c ≠ 34) (k : Nat) (r : List UInt8) : Lib.replaceK [34] [34, 34] k (c :: r) = c :: Lib.replaceK [34] [34, 34] k r := by
  cases k with
  | zero => rfl
  | succ k =>
    have hi := index_cons_ne h r
    have hge := Lib.index_ge r [34]
    rw [Lib.replaceK, Lib.replaceK, hi]
    by_cases hm : Lib.index r [34] = -1
    · simp [hm]
    · obtain ⟨n, hn⟩ : ∃ n : Nat, Lib.index r [34] = n := ⟨(Lib.index r [34]).toNat, by omega⟩
      have e1 : ((n : Int) == -1) = false := beq_eq_false_iff_ne.2 (by omega)
      have e2 : ((n : Int) + 1 == -1) = false := beq_eq_false_iff_ne.2 (by omega)
      have e3 : ((n : Int) + 1).toNat = n + 1 := by omega
      rw [hn, e1]
      simp only [Bool.false_eq_true, if_false, e2, e3, Int.toNat_natCast]
      simp
theorem replaceK_esc : ∀ (t : List UInt8), Lib.replaceK [34] [34, 34] (Lib.count t [34]) t = escT t
  | [] => rfl
  | c :: r => by
    by_cases h : c = 34
    · subst h
      rw [Lib.count_cons_eq, Nat.add_comm, Lib.replaceK, Lib.index_one, show Lib.indexByte (34 :: r) 34 = 0 from by simp [Lib.indexByte]]
      have := replaceK_esc r
      simp [escT, quoteB, this]
    · have hq : quoteB c = false := by
        unfold quoteB
        rw [beq_eq_false_iff_ne]
        intro e
        exact h (UInt8.toNat.inj e)
      rw [Lib.count_cons_ne _ _ _ h, replaceK_ne h, replaceK_esc r, escT, hq]
      rfl
theorem replace_esc (t : List UInt8) : Lib.replaceAll t [34] [34, 34] = escT t := by
  unfold Lib.replaceAll Lib.replace
  rw [if_neg (by decide)]
  unfold Lib.replaceNum
  rw [if_pos (.inl (by decide))]
  exact replaceK_esc t

theorem replace_any (t : List UInt8) (W : World) (m : Int) (hm : W.cell? ⟨0, 0, none⟩ = some (.int .i64 m)) (ht : t.length ≤ 4000000) :
    Calls Tryd.prog 24 #[.string ⟨t.toArray⟩, .string ⟨#[34]⟩, .string ⟨#[34, 34]⟩] W fun e w' => e = .returned (.string ⟨(escT t).toArray⟩) ∧ Below W.heap.size W w' := by
  have hsz : (⟨t.toArray⟩ : ByteArray).size = t.length := by simp [ByteArray.size]
  have hc := Lib.countB_le ⟨#[34]⟩ (by decide) _ ⟨t.toArray⟩ (Nat.le_refl _)
  have := Tryd.strings_ReplaceAll ⟨t.toArray⟩ ⟨#[34]⟩ ⟨#[34, 34]⟩ m W (by omega) hm (by decide) (by
    rw [show (⟨#[34, 34]⟩ : ByteArray).size = 2 from rfl]; omega)
  rw [show Lib.replaceAll (⟨t.toArray⟩ : ByteArray).data.toList (⟨#[34]⟩ : ByteArray).data.toList (⟨#[34, 34]⟩ : ByteArray).data.toList = escT t from by simp [replace_esc]] at this
  exact this

theorem tried_is (k : Int) (t : List UInt8) (a : Int) (x : ByteArray) (s : List UInt8) (w : World) (hx : x.data.toList = s) (hs : s.length ≤ 16777216) {b : Bool} (h : triedT k t s = b) :
    Calls Tryd.prog 23 #[.agg #[.int .i64 k, .string ⟨t.toArray⟩, .int .i64 a], .string x] w fun e w' => e = .returned (.tuple #[.string (if b then x else ⟨#[]⟩), .bool b]) ∧ Below w.heap.size w w' := by
  have e : x = ⟨s.toArray⟩ := by rw [← hx]
  have := tried_any k t a s w hs
  rw [← e, h] at this
  refine this.mono fun e' w' ⟨h1, h2⟩ => ⟨?_, h2⟩
  rw [h1]
  cases b <;> simp [wordRes, e]

/-- The outcome: the word of a token. -/
def WordPost (k : Int) (t : List UInt8) (w : World) (e : Ending) (w' : World) : Prop := e = .returned (wordRes (wordT k t)) ∧ Below w.heap.size w w'

theorem boxed {w w' : World} {v0 v1 v2 : Value} (hb : Below (w.alloc (.cells #[v0, v1, v2] 23)).heap.size (w.alloc (.cells #[v0, v1, v2] 23)) w') : Below w.heap.size w w' ∧ w'.cell? ⟨w.heap.size, 0, none⟩ = some v0 ∧ w'.cell? ⟨w.heap.size, 1, none⟩ = some v1 ∧ w'.cell? ⟨w.heap.size, 2, none⟩ = some v2 := by
  have h1 : Below w.heap.size w (w.alloc (.cells #[v0, v1, v2] 23)) := (Below.refl _ _).alloc (Nat.le_refl _) _
  obtain ⟨c0, c1, c2, -⟩ := ((Blk.new w 23 #[v0, v1, v2]).below hb (by simp)).c3
  exact ⟨h1.trans (hb.mono h1.size), c0, c1, c2⟩
theorem below_boxed {w w' : World} {v0 v1 v2 : Value} (hb : Below (w.alloc (.cells #[v0, v1, v2] 23)).heap.size (w.alloc (.cells #[v0, v1, v2] 23)) w') : Below w.heap.size w w' := (boxed hb).1
theorem boxedD {w w' : World} {v0 v1 v2 : Value} (hb : Below (w.alloc (.cells #[v0, v1, v2] 23)).drew.heap.size (w.alloc (.cells #[v0, v1, v2] 23)).drew w') : Below w.heap.size w w' ∧ w'.cell? ⟨w.heap.size, 0, none⟩ = some v0 ∧ w'.cell? ⟨w.heap.size, 1, none⟩ = some v1 ∧ w'.cell? ⟨w.heap.size, 2, none⟩ = some v2 :=
  boxed (w := w) (v0 := v0) (v1 := v1) (v2 := v2) ⟨hb.os, hb.tape, hb.output, hb.size, hb.block⟩
theorem tried_hid (k : Int) (t : List UInt8) (a : Int) (x : ByteArray) (s : List UInt8) (w : World) (hx : x.data.toList = s) (hs : s.length ≤ 16777216) {b : Bool} (h : Hid (triedT k t s = b)) :
    Calls Tryd.prog 23 #[.agg #[.int .i64 k, .string ⟨t.toArray⟩, .int .i64 a], .string x] w fun e w' => ∃ y, Hid (y = if b then x else ⟨#[]⟩) ∧ e = .returned (.tuple #[.string y, .bool b]) ∧ Below w.heap.size w w' :=
  (tried_is k t a x s w hx hs h.out).mono fun _ _ ⟨h1, h2⟩ => ⟨_, hide rfl, h1, h2⟩

set_option maxHeartbeats 1600000 in
theorem word_1 (t : List UInt8) (a : Int) (w : World) (ht : t.length ≤ 4000000) : Calls Tryd.prog 9 #[tokAgg 1 t a] w (WordPost 1 t w) := by
  unfold tokAgg
  obtain ⟨b, hT⟩ : ∃ b, triedT 1 t (t) = b := ⟨_, rfl⟩
  have HT := hide hT
  clear hT
  cases b <;> (
    go_enter Tryd.func9, Tryd.ntmps9
    go_wp2_with fail
    refine (tried_is _ _ _ _ _ _ (by simp) (by first | omega | (simp; omega)) HT.out).mono ?_
    rintro e w' ⟨rfl, hb⟩
    go_wp2_with fail
    go_ret2
    exact ⟨by rw [show wordT 1 t = _ from rfl]; simp [wordT, HT.out, wordRes] <;> rfl, below_boxed hb⟩)

set_option maxHeartbeats 1600000 in
theorem word_2 (t : List UInt8) (a : Int) (w : World) (ht : t.length ≤ 4000000) : Calls Tryd.prog 9 #[tokAgg 2 t a] w (WordPost 2 t w) := by
  unfold tokAgg
  obtain ⟨b, hT⟩ : ∃ b, triedT 2 t (t) = b := ⟨_, rfl⟩
  have HT := hide hT
  clear hT
  cases b <;> (
    go_enter Tryd.func9, Tryd.ntmps9
    go_wp2_with fail
    refine (tried_is _ _ _ _ _ _ (by simp) (by first | omega | (simp; omega)) HT.out).mono ?_
    rintro e w' ⟨rfl, hb⟩
    go_wp2_with fail
    go_ret2
    exact ⟨by rw [show wordT 2 t = _ from rfl]; simp [wordT, HT.out, wordRes] <;> rfl, below_boxed hb⟩)

set_option maxHeartbeats 1600000 in
theorem word_4 (t : List UInt8) (a : Int) (w : World) (ht : t.length ≤ 4000000) : Calls Tryd.prog 9 #[tokAgg 4 t a] w (WordPost 4 t w) := by
  unfold tokAgg
  obtain ⟨b, hT⟩ : ∃ b, triedT 4 t (t) = b := ⟨_, rfl⟩
  have HT := hide hT
  clear hT
  cases b <;> (
    go_enter Tryd.func9, Tryd.ntmps9
    go_wp2_with fail
    refine (tried_is _ _ _ _ _ _ (by simp) (by first | omega | (simp; omega)) HT.out).mono ?_
    rintro e w' ⟨rfl, hb⟩
    go_wp2_with fail
    go_ret2
    exact ⟨by rw [show wordT 4 t = _ from rfl]; simp [wordT, HT.out, wordRes] <;> rfl, below_boxed hb⟩)

set_option maxHeartbeats 1600000 in
theorem word_5 (t : List UInt8) (a : Int) (w : World) (ht : t.length ≤ 4000000) : Calls Tryd.prog 9 #[tokAgg 5 t a] w (WordPost 5 t w) := by
  unfold tokAgg
  obtain ⟨b, hT⟩ : ∃ b, triedT 5 t (t) = b := ⟨_, rfl⟩
  have HT := hide hT
  clear hT
  cases b <;> (
    go_enter Tryd.func9, Tryd.ntmps9
    go_wp2_with fail
    refine (tried_is _ _ _ _ _ _ (by simp) (by first | omega | (simp; omega)) HT.out).mono ?_
    rintro e w' ⟨rfl, hb⟩
    go_wp2_with fail
    go_ret2
    exact ⟨by rw [show wordT 5 t = _ from rfl]; simp [wordT, HT.out, wordRes] <;> rfl, below_boxed hb⟩)

set_option maxHeartbeats 1600000 in
theorem word_6 (t : List UInt8) (a : Int) (w : World) (ht : t.length ≤ 4000000) : Calls Tryd.prog 9 #[tokAgg 6 t a] w (WordPost 6 t w) := by
  unfold tokAgg
  obtain ⟨b, hT⟩ : ∃ b, triedT 6 t (t) = b := ⟨_, rfl⟩
  have HT := hide hT
  clear hT
  cases b <;> (
    go_enter Tryd.func9, Tryd.ntmps9
    go_wp2_with fail
    refine (tried_is _ _ _ _ _ _ (by simp) (by first | omega | (simp; omega)) HT.out).mono ?_
    rintro e w' ⟨rfl, hb⟩
    go_wp2_with fail
    go_ret2
    exact ⟨by rw [show wordT 6 t = _ from rfl]; simp [wordT, HT.out, wordRes] <;> rfl, below_boxed hb⟩)

set_option maxHeartbeats 1600000 in
theorem word_7 (t : List UInt8) (a : Int) (w : World) (ht : t.length ≤ 4000000) : Calls Tryd.prog 9 #[tokAgg 7 t a] w (WordPost 7 t w) := by
  unfold tokAgg
  obtain ⟨b, hT⟩ : ∃ b, triedT 7 t (35 :: 120 :: t) = b := ⟨_, rfl⟩
  have HT := hide hT
  clear hT
  cases b <;> (
    go_enter Tryd.func9, Tryd.ntmps9
    go_wp2_with fail
    refine (tried_is _ _ _ _ _ _ (by simp [ByteArray.data_append]) (by first | omega | (simp; omega)) HT.out).mono ?_
    rintro e w' ⟨rfl, hb⟩
    go_wp2_with fail
    go_ret2
    exact ⟨by rw [show wordT 7 t = _ from rfl]; simp [wordT, HT.out, wordRes] <;> rfl, below_boxed hb⟩)

set_option maxHeartbeats 1600000 in
theorem word_8 (t : List UInt8) (a : Int) (w : World) (ht : t.length ≤ 4000000) : Calls Tryd.prog 9 #[tokAgg 8 t a] w (WordPost 8 t w) := by
  unfold tokAgg
  obtain ⟨b, hT⟩ : ∃ b, triedT 8 t (35 :: 98 :: t) = b := ⟨_, rfl⟩
  have HT := hide hT
  clear hT
  cases b <;> (
    go_enter Tryd.func9, Tryd.ntmps9
    go_wp2_with fail
    refine (tried_is _ _ _ _ _ _ (by simp [ByteArray.data_append]) (by first | omega | (simp; omega)) HT.out).mono ?_
    rintro e w' ⟨rfl, hb⟩
    go_wp2_with fail
    go_ret2
    exact ⟨by rw [show wordT 8 t = _ from rfl]; simp [wordT, HT.out, wordRes] <;> rfl, below_boxed hb⟩)

set_option maxHeartbeats 1600000 in
theorem word_10 (t : List UInt8) (a : Int) (w : World) (ht : t.length ≤ 4000000) : Calls Tryd.prog 9 #[tokAgg 10 t a] w (WordPost 10 t w) := by
  unfold tokAgg
  obtain ⟨b, hT⟩ : ∃ b, triedT 10 t (58 :: t) = b := ⟨_, rfl⟩
  have HT := hide hT
  clear hT
  cases b <;> (
    go_enter Tryd.func9, Tryd.ntmps9
    go_wp2_with fail
    refine (tried_is _ _ _ _ _ _ (by simp [ByteArray.data_append]) (by first | omega | (simp; omega)) HT.out).mono ?_
    rintro e w' ⟨rfl, hb⟩
    go_wp2_with fail
    go_ret2
    exact ⟨by rw [show wordT 10 t = _ from rfl]; simp [wordT, HT.out, wordRes] <;> rfl, below_boxed hb⟩)

set_option maxHeartbeats 1600000 in
theorem word_3 (t : List UInt8) (a : Int) (w : World) (ht : t.length ≤ 4000000) : Calls Tryd.prog 9 #[tokAgg 3 t a] w (WordPost 3 t w) := by
  unfold tokAgg
  obtain ⟨b, hT⟩ : ∃ b, triedT 3 t t = b := ⟨_, rfl⟩
  obtain ⟨b', hT'⟩ : ∃ b, triedT 3 t (124 :: (t ++ [124])) = b := ⟨_, rfl⟩
  have HT := hide hT
  have HT' := hide hT'
  clear hT hT'
  cases b with
  | true =>
    go_enter Tryd.func9, Tryd.ntmps9
    go_wp2_with fail
    refine (tried_is _ _ _ _ _ _ (by simp) (by omega) HT.out).mono ?_
    rintro e w' ⟨rfl, hb⟩
    go_wp2_with fail
    go_ret2
    exact ⟨by simp [wordT, HT.out, wordRes], below_boxed hb⟩
  | false =>
    cases b' <;> (
      go_enter Tryd.func9, Tryd.ntmps9
      go_wp2_with fail
      refine (tried_is _ _ _ _ _ _ (by simp) (by omega) HT.out).mono ?_
      rintro e w' ⟨rfl, hb⟩
      obtain ⟨hb, c0, c1, c2⟩ := boxed hb
      go_wp2_with fail
      refine (tried_is _ _ _ _ _ _ (by simp [ByteArray.data_append]) (by simp; omega) HT'.out).mono ?_
      rintro e w2 ⟨rfl, hb2⟩
      go_wp2_with fail
      go_ret2
      exact ⟨by simp [wordT, HT.out, HT'.out, wordRes] <;> rfl, hb.trans (hb2.mono hb.size)⟩)

set_option maxHeartbeats 1600000 in
theorem word_9 (t : List UInt8) (a : Int) (w : World) (m : Int) (hm : w.cell? ⟨0, 0, none⟩ = some (.int .i64 m)) (ht : t.length ≤ 4000000) : Calls Tryd.prog 9 #[tokAgg 9 t a] w (WordPost 9 t w) := by
  unfold tokAgg
  obtain ⟨b, hT⟩ : ∃ b, triedT 9 t (34 :: (escT t ++ [34])) = b := ⟨_, rfl⟩
  have HT := hide hT
  clear hT
  have h0 : 0 < w.heap.size := by have := World.block_lt_of_cell? w _ hm; simpa using this
  have hm1 : (w.alloc (.cells #[.int .i64 9, .string ⟨t.toArray⟩, .int .i64 a] 23)).drew.cell? ⟨0, 0, none⟩ = some (.int .i64 m) := by
    rw [← hm]; exact ((Below.refl w.heap.size w).alloc (Nat.le_refl _) _).drew.cell (by simpa using h0)
  have hlen := escT_len t
  have hl1 : ¬ 9223372036854775807 < 1 + (escT t).length := by omega
  have hl2 : ¬ 9223372036854775807 < 1 + (escT t).length + 1 := by omega
  have hsp : (escT t).length ≤ 10000000 := by omega
  go_enter Tryd.func9, Tryd.ntmps9
  go_wp2_with fail
  go_region_with (first | (go_at_call 24; refine (replace_any _ _ _ hm1 ht).mono ?_; rintro e w1 ⟨rfl, hb1⟩; obtain ⟨hb, c0, c1, c2⟩ := boxedD hb1; clear hb1) | (go_at_call 23; refine (tried_hid _ _ _ _ _ _ (by simp [ByteArray.data_append]) (by simp; omega) HT).mono ?_; rintro e w2 ⟨y, hy, rfl, hb2⟩))
  all_goals (
    go_wp2_with fail
    go_ret2
    refine ⟨?_, hb.trans (hb2.mono hb.size)⟩
    rw [show wordRes (wordT 9 t) = .tuple #[.string y, .bool b] from by cases b <;> simp [wordT, HT.out, wordRes, hy.out] <;> rfl]
    rfl)

theorem word_other (k : Int) (t : List UInt8) (a : Int) (w : World) (hk : k < 1 ∨ 10 < k) : Calls Tryd.prog 9 #[tokAgg k t a] w (WordPost k t w) := by
  unfold tokAgg
  have hn : wordT k t = none := by
    unfold wordT
    rw [if_neg (by omega), if_neg (by omega), if_neg (by omega), if_neg (by omega), if_neg (by omega)]
    split
    · rename_i h
      have := triedT_kinds h
      omega
    · rfl
  have HN := hide hn
  clear hn
  have e1 : (k == 1) = false := by simpa using (by omega : k ≠ 1)
  have e2 : (k == 2) = false := by simpa using (by omega : k ≠ 2)
  have e3 : (k == 3) = false := by simpa using (by omega : k ≠ 3)
  have e4 : (k == 4) = false := by simpa using (by omega : k ≠ 4)
  have e5 : (k == 5) = false := by simpa using (by omega : k ≠ 5)
  have e6 : (k == 6) = false := by simpa using (by omega : k ≠ 6)
  have e7 : (k == 7) = false := by simpa using (by omega : k ≠ 7)
  have e8 : (k == 8) = false := by simpa using (by omega : k ≠ 8)
  have e9 : (k == 9) = false := by simpa using (by omega : k ≠ 9)
  have e10 : (k == 10) = false := by simpa using (by omega : k ≠ 10)
  go_enter Tryd.func9, Tryd.ntmps9
  go_wp2_with fail
  go_ret2
  exact ⟨by rw [HN.out]; rfl, (Below.refl _ _).alloc (Nat.le_refl _) _⟩

theorem word_any (k : Int) (t : List UInt8) (a : Int) (w : World) (m : Int) (hm : w.cell? ⟨0, 0, none⟩ = some (.int .i64 m)) (ht : t.length ≤ 4000000) :
    Calls Tryd.prog 9 #[tokAgg k t a] w (WordPost k t w) := by
  by_cases h : k < 1 ∨ 10 < k
  · exact word_other k t a w h
  · obtain rfl | rfl | rfl | rfl | rfl | rfl | rfl | rfl | rfl | rfl : k = 1 ∨ k = 2 ∨ k = 3 ∨ k = 4 ∨ k = 5 ∨ k = 6 ∨ k = 7 ∨ k = 8 ∨ k = 9 ∨ k = 10 := by omega
    · exact word_1 t a w ht
    · exact word_2 t a w ht
    · exact word_3 t a w ht
    · exact word_4 t a w ht
    · exact word_5 t a w ht
    · exact word_6 t a w ht
    · exact word_7 t a w ht
    · exact word_8 t a w ht
    · exact word_9 t a w m hm ht
    · exact word_10 t a w ht
end Go.Proofs.YtajlibegalbbmaaDoor
