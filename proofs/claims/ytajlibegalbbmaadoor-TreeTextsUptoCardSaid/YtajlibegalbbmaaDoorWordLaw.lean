/- The plain law of TokenWords and TokenJoins: no program in sight. -/
import Derived.Test.YtajlibegalbbmaaDoorCutLaw
import Derived.Lib.Replace
namespace Go.Proofs.YtajlibegalbbmaaDoor

/-- What ends a word: a blank, or ')'. -/
def stopB (c : UInt8) : Bool := blankB c || c.toNat == 41
theorem blank_of {c : UInt8} (h : blankB c = true) : c = 9 ∨ c = 10 ∨ c = 13 ∨ c = 32 := by
  simp only [blankB, Bool.or_eq_true, beq_iff_eq] at h
  rcases h with ((h | h) | h) | h
  · exact .inl (UInt8.toNat.inj h)
  · exact .inr (.inl (UInt8.toNat.inj h))
  · exact .inr (.inr (.inl (UInt8.toNat.inj h)))
  · exact .inr (.inr (.inr (UInt8.toNat.inj h)))
theorem stop_of {c : UInt8} (h : stopB c = true) : c = 9 ∨ c = 10 ∨ c = 13 ∨ c = 32 ∨ c = 41 := by
  simp only [stopB, Bool.or_eq_true, beq_iff_eq] at h
  rcases h with h | h
  · rcases blank_of h with h | h | h | h <;> simp [h]
  · exact .inr (.inr (.inr (.inr (UInt8.toNat.inj h))))
/-- A place lies ahead of the cut, or is the cut, and a blank or a ')' stands there. -/
def Stop (l : List UInt8) (m n : Nat) : Prop := n < m ∨ (n = m ∧ isAt stopB l m = true)

theorem blank_digit (c : UInt8) (h : stopB c = true) : digitB c = false := by rcases stop_of h with rfl | rfl | rfl | rfl | rfl <;> rfl
theorem blank_hex (c : UInt8) (h : stopB c = true) : hexB c = false := by rcases stop_of h with rfl | rfl | rfl | rfl | rfl <;> rfl
theorem blank_bin (c : UInt8) (h : stopB c = true) : binB c = false := by rcases stop_of h with rfl | rfl | rfl | rfl | rfl <;> rfl
theorem blank_sym (c : UInt8) (h : stopB c = true) : symB c = false := by rcases stop_of h with rfl | rfl | rfl | rfl | rfl <;> rfl
theorem blank_quote (c : UInt8) (h : stopB c = true) : quoteB c = false := by rcases stop_of h with rfl | rfl | rfl | rfl | rfl <;> rfl

theorem isAt_blank {q : UInt8 → Bool} (hq : ∀ c, stopB c = true → q c = false) {l : List UInt8} {m : Nat} (h : isAt stopB l m = true) : isAt q l m = false := by
  have hl := isAt_lt' h
  rw [isAt_lt hl] at h ⊢
  exact hq _ h
theorem isAt_stop {q : UInt8 → Bool} (hq : ∀ c, stopB c = true → q c = false) {l : List UInt8} {m i : Nat} (h : Stop l m i) : isAt q (l.take m) i = isAt q l i := by
  rcases h with h | ⟨rfl, h⟩
  · exact isAt_take h
  · rw [isAt_blank hq h, isAt_ge (by rw [List.length_take]; omega)]

theorem cnt_stops {q : UInt8 → Bool} (hq : ∀ c, stopB c = true → q c = false) {l : List UInt8} {m a : Nat} (h : Stop l m (a + cnt q ((l.take m).drop a))) : cnt q (l.drop a) = cnt q ((l.take m).drop a) ∧ (l.drop a).takeWhile q = ((l.take m).drop a).takeWhile q := by
  generalize hc : cnt q ((l.take m).drop a) = c at h
  have hcm : a + c ≤ m := by rcases h with h | h <;> omega
  have h1 : ∀ i, i < c → isAt q (l.drop a) i = true := by
    intro i hi
    have := cnt_all (q := q) ((l.take m).drop a) i (by omega)
    rw [isAt_drop] at this ⊢
    exact (isAt_take_true this).2
  have h2 : isAt q (l.drop a) c = false := by
    have := cnt_stop (q := q) ((l.take m).drop a)
    rw [hc, isAt_drop, isAt_stop hq h] at this
    rw [isAt_drop]
    exact this
  have hle : c ≤ (l.drop a).length := by
    rcases Nat.eq_zero_or_pos c with h0 | h0
    · omega
    · have := isAt_lt' (h1 (c - 1) (by omega)); omega
  have h3 := takeWhile_at c (l.drop a) hle h1 h2
  have h4 : cnt q (l.drop a) = c := by
    unfold cnt
    rw [h3, List.length_take]
    omega
  refine ⟨h4, ?_⟩
  rw [h3, tw_take, hc, List.drop_take, List.take_take, Nat.min_eq_left (by omega)]

theorem quo_ends : ∀ (l acc : List UInt8) (n m : Nat) {k r : Nat} {t : List UInt8}, quoT (l.take m) acc n = .ok (k, t, r) → (r < n + m ∨ (r = n + m ∧ isAt stopB l m = true)) → quoT l acc n = .ok (k, t, r)
  | [], acc, n, m, k, r, t, h, hr => by simpa using h
  | [c], acc, n, m, k, r, t, h, hr => by
    cases m with
    | zero => simp [quoT] at h
    | succ m => simpa using h
  | c :: d :: l, acc, n, m, k, r, t, h, hr => by
    match m with
    | 0 => simp [quoT] at h
    | 1 =>
      have hp := quoT_pos _ _ _ h
      rcases hr with hr | ⟨hr, hb⟩
      · omega
      · have hd : quoteB d = false := blank_quote d (by simpa [isAt] using hb)
        simp only [List.take_succ_cons, List.take_zero] at h
        unfold quoT at h ⊢
        split at h
        · rename_i hc
          rw [if_pos hc, hd]
          exact h
        · split at h <;> cases h
    | m + 2 =>
      simp only [List.take_succ_cons] at h
      unfold quoT at h ⊢
      split at h
      · rename_i hc
        rw [if_pos hc]
        split at h
        · rename_i hd
          rw [if_pos hd]
          exact quo_ends l _ _ m h (by
            rcases hr with hr | ⟨hr, hb⟩
            · exact .inl (by omega)
            · exact .inr ⟨by omega, by simpa [isAt] using hb⟩)
        · rename_i hd
          rw [if_neg hd]
          exact h
      · rename_i hc
        rw [if_neg hc]
        split at h
        · rename_i ht
          rw [if_pos ht]
          have := quo_ends (d :: l) (acc ++ [c]) (n + 1) (m + 1) (by simpa using h) (by
            rcases hr with hr | ⟨hr, hb⟩
            · exact .inl (by omega)
            · exact .inr ⟨by omega, by simpa [isAt] using hb⟩)
          exact this
        · cases h

theorem num_stop {l : List UInt8} {m k n : Nat} {t : List UInt8} (h : numT (l.take m) = .ok (k, t, n)) (hn : Stop l m n) (h0 : 0 < n) : numT l = .ok (k, t, n) := by
  have hnm : n ≤ m := by rcases hn with h | h <;> omega
  have h01 : Stop l m 1 := by
    rcases hn with h | ⟨h, hb⟩
    · exact .inl (by omega)
    · rcases Nat.lt_or_ge 1 m with h1 | h1
      · exact .inl h1
      · exact .inr ⟨by omega, hb⟩
  unfold numT at h ⊢
  split at h
  · cases h
  · rename_i hz
    have hz' : ¬ (isAt (fun c => c.toNat == 48) l 0 && isAt digitB l 1) = true := by
      rw [isAt_take (by omega), isAt_stop blank_digit h01] at hz
      exact hz
    rw [if_neg hz']
    split at h
    · rename_i hd
      obtain ⟨hs, he⟩ := apartT_eq h
      simp only [Prod.mk.injEq] at he
      obtain ⟨rfl, ht, hnn⟩ := he
      simp only [Bool.and_eq_true] at hd
      have hd1 := isAt_take_true hd.1
      have hd2 := isAt_take_true hd.2
      have c1 := (cnt_cut (q := digitB) (l := l) (m := m) (a := 0) (by simpa using hd1.1)).1
      simp only [List.drop_zero] at c1
      have c2 := (cnt_stops blank_digit (l := l) (m := m) (a := cnt digitB (l.take m) + 1) (by rw [hnn]; exact hn)).1
      rw [c1, hd1.2, hd2.2, c2]
      simp only [Bool.and_self, if_true]
      rw [hnn] at hs ⊢
      rw [apartT_of (by rw [isAt_stop blank_sym hn] at hs; exact hs)]
      rw [← ht, hnn, List.take_take, Nat.min_eq_left (by omega)]
    · rename_i hd
      obtain ⟨hs, he⟩ := apartT_eq h
      simp only [Prod.mk.injEq] at he
      obtain ⟨rfl, ht, hnn⟩ := he
      have hlt : Stop l m (cnt digitB (l.take m)) := by rw [hnn]; exact hn
      have c1 := (cnt_stops blank_digit (l := l) (m := m) (a := 0) (by simpa using hlt)).1
      simp only [List.drop_zero] at c1
      have hs' := hs
      rw [isAt_stop blank_sym hlt] at hs'
      have hdot : isAt dotB l (cnt digitB (l.take m)) = false := by
        cases hx : isAt dotB l (cnt digitB (l.take m))
        · rfl
        · rw [dot_sym hx] at hs'; cases hs'
      rw [c1, hdot]
      simp only [Bool.false_and, Bool.false_eq_true, if_false]
      rw [apartT_of hs', ← ht, hnn, List.take_take, Nat.min_eq_left (by omega)]

theorem bitsOf_stop {l : List UInt8} {m k k' n : Nat} {t : List UInt8} {q : UInt8 → Bool} (hb : ∀ c, stopB c = true → q c = false) (h : bitsOf (l.take m) k' q = .ok (k, t, n)) (hn : Stop l m n) : bitsOf l k' q = .ok (k, t, n) := by
  unfold bitsOf at h ⊢
  split at h
  · rename_i hq
    have hq' := isAt_take_true hq
    rw [if_pos hq'.2]
    obtain ⟨hs, he⟩ := apartT_eq h
    simp only [Prod.mk.injEq] at he
    obtain ⟨rfl, ht, hnn⟩ := he
    have c1 := cnt_stops hb (l := l) (m := m) (a := 2) (by rw [hnn]; exact hn)
    rw [c1.1, c1.2, hnn, apartT_of (by rw [hnn, isAt_stop blank_sym hn] at hs; exact hs), ht]
  · cases h

/-- A token that ends at a blank, or ahead of the cut, is the whole text's. -/
theorem tok_stop {l : List UInt8} {m k n : Nat} {t : List UInt8} (h : tokT (l.take m) = .ok (k, t, n)) (hn : Stop l m n) : tokT l = .ok (k, t, n) := by
  have h0 := tok_pos h
  have hnm : n ≤ m := by rcases hn with h | h <;> omega
  cases l with
  | nil => simp [tokT] at h
  | cons c r =>
    obtain ⟨m, rfl⟩ : ∃ m', m = m' + 1 := ⟨m - 1, by omega⟩
    have e : (c :: r).take (m + 1) = c :: r.take m := rfl
    rw [e] at h
    simp only [tokT] at h ⊢
    rw [← e] at h
    split at h
    · rename_i hp
      rw [if_pos hp]
      unfold parenT at h ⊢
      rw [isAt_take (by omega)] at h
      exact h
    rename_i hp
    rw [if_neg hp]
    split at h
    · rename_i hp
      rw [if_pos hp]
      exact num_stop h hn h0
    rename_i hp
    rw [if_neg hp]
    split at h
    · rename_i hp
      rw [if_pos hp]
      unfold bitsT at h ⊢
      split at h
      · rename_i hx
        rw [if_pos (isAt_take_true hx).2]
        exact bitsOf_stop blank_hex h hn
      · rename_i hx
        split at h
        · rename_i hb
          have hb' := isAt_take_true hb
          rw [isAt_take hb'.1] at hx
          rw [if_neg hx, if_pos hb'.2]
          exact bitsOf_stop blank_bin h hn
        · cases h
    rename_i hp
    rw [if_neg hp]
    split at h
    · rename_i hp
      rw [if_pos hp]
      exact quo_ends r [] 1 m h (by
        rcases hn with hn | ⟨hn, hb⟩
        · exact .inl (by omega)
        · exact .inr ⟨by omega, by simpa [isAt] using hb⟩)
    rename_i hp
    rw [if_neg hp]
    split at h
    · rename_i hp
      rw [if_pos hp]
      unfold keyT at h ⊢
      split at h
      · rename_i hx
        rw [if_pos (isAt_take_true hx).2]
        injection h with h
        simp only [Prod.mk.injEq] at h
        obtain ⟨rfl, ht, hnn⟩ := h
        have c1 := cnt_stops blank_sym (l := c :: r) (m := m + 1) (a := 1) (by rw [hnn]; exact hn)
        rw [c1.1, c1.2, ht, hnn]
      · cases h
    rename_i hp
    rw [if_neg hp]
    split at h
    · rename_i hp
      rw [if_pos hp]
      unfold barT at h ⊢
      split at h
      · rename_i hx
        have hx' := isAt_take_true hx
        injection h with h
        simp only [Prod.mk.injEq] at h
        obtain ⟨rfl, ht, hnn⟩ := h
        have c1 := cnt_cut (q := barB) (l := c :: r) (m := m + 1) (a := 1) hx'.1
        rw [c1.1, c1.2, if_pos hx'.2, ht, hnn]
      · cases h
    rename_i hp
    rw [if_neg hp]
    split at h
    · rename_i hp
      rw [if_pos hp]
      unfold symT at h ⊢
      injection h with h
      simp only [Prod.mk.injEq] at h
      obtain ⟨hk, ht, hnn⟩ := h
      have c1 := cnt_stops blank_sym (l := c :: r) (m := m + 1) (a := 0) (by rw [List.drop_zero, Nat.zero_add, hnn]; exact hn)
      simp only [List.drop_zero] at c1
      rw [c1.1, c1.2, hk, ht, hnn]
    · cases h

/-- A word, and a blank behind it: the same token. -/
theorem tok_before {s : List UInt8} {k : Nat} {t : List UInt8} (h : tokT s = .ok (k, t, s.length)) {c : UInt8} (hc : stopB c = true) (r : List UInt8) : tokT (s ++ c :: r) = .ok (k, t, s.length) := by
  refine tok_stop (m := s.length) (by rw [List.take_left]; exact h) (.inr ⟨rfl, ?_⟩)
  simp [isAt, hc]
theorem tok_word {s : List UInt8} {k : Nat} {t : List UInt8} (h : tokT s = .ok (k, t, s.length)) {c : UInt8} (hc : blankB c = true) (r : List UInt8) : tokT (s ++ c :: r) = .ok (k, t, s.length) := by
  exact tok_before h (by simp [stopB, hc]) r

theorem tok_skip {l : List UInt8} {k n : Nat} {t : List UInt8} (h : tokT l = .ok (k, t, n)) : skipS false l = 0 := by
  cases l with
  | nil => rfl
  | cons c r =>
    have hb : blankB c = false := by
      cases hb : blankB c
      · rfl
      · rcases blank_of hb with rfl | rfl | rfl | rfl <;> exact absurd h (by intro h; cases h)
    have h59 : (c.toNat == 59) = false := by
      cases hb : (c.toNat == 59)
      · rfl
      · obtain rfl : c = 59 := UInt8.toNat.inj (by simpa using hb)
        exact absurd h (by intro h; cases h)
    simp [skipS, hb, h59]
end Go.Proofs.YtajlibegalbbmaaDoor
