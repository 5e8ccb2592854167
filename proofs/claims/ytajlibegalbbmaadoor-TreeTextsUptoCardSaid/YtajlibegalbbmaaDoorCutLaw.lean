/- The plain law of TokenCut: no program in sight. -/
import Derived.Test.YtajlibegalbbmaaDoorLex
namespace Go.Proofs.YtajlibegalbbmaaDoor

theorem isAt_take {q : UInt8 → Bool} {l : List UInt8} {m i : Nat} (h : i < m) : isAt q (l.take m) i = isAt q l i := by
  simp [isAt, h]
theorem isAt_take_true {q : UInt8 → Bool} {l : List UInt8} {m i : Nat} (h : isAt q (l.take m) i = true) : i < m ∧ isAt q l i = true := by
  have hi := isAt_lt' h
  rw [List.length_take] at hi
  have hm : i < m := by omega
  rw [isAt_take hm] at h
  exact ⟨hm, h⟩

theorem cnt_all {q : UInt8 → Bool} : ∀ (l : List UInt8) (i : Nat), i < cnt q l → isAt q l i = true
  | [], i, h => by simp [cnt] at h
  | c :: l, i, h => by
    unfold cnt at h
    cases hc : q c
    · rw [List.takeWhile_cons, hc] at h
      simp at h
    · rw [List.takeWhile_cons, hc] at h
      simp at h
      cases i with
      | zero => simpa [isAt] using hc
      | succ i =>
        have := cnt_all (q := q) l i (by unfold cnt; omega)
        simpa [isAt] using this
theorem cnt_stop {q : UInt8 → Bool} : ∀ (l : List UInt8), isAt q l (cnt q l) = false
  | [] => by simp [isAt]
  | c :: l => by
    unfold cnt
    cases hc : q c
    · rw [List.takeWhile_cons, hc]
      simp [isAt, hc]
    · rw [List.takeWhile_cons, hc]
      have := cnt_stop (q := q) l
      simpa [isAt, cnt] using this
theorem tw_take {q : UInt8 → Bool} (l : List UInt8) : l.takeWhile q = l.take (cnt q l) := by
  unfold cnt
  induction l with
  | nil => rfl
  | cons c l ih =>
    cases hc : q c
    · simp [hc]
    · simp [hc]
      exact ih

theorem cnt_cut {q : UInt8 → Bool} {l : List UInt8} {m a : Nat} (h : a + cnt q ((l.take m).drop a) < m) : cnt q (l.drop a) = cnt q ((l.take m).drop a) ∧ (l.drop a).takeWhile q = ((l.take m).drop a).takeWhile q := by
  generalize hc : cnt q ((l.take m).drop a) = c at h
  have h1 : ∀ i, i < c → isAt q (l.drop a) i = true := by
    intro i hi
    have := cnt_all (q := q) ((l.take m).drop a) i (by omega)
    rw [isAt_drop] at this ⊢
    exact (isAt_take_true this).2
  have h2 : isAt q (l.drop a) c = false := by
    have := cnt_stop (q := q) ((l.take m).drop a)
    rw [hc, isAt_drop, isAt_take h] at this
    rw [isAt_drop]
    exact this
  have hle : c ≤ (l.drop a).length := by
    rcases Nat.eq_zero_or_pos c with h0 | h0
    · omega
    · have := isAt_lt' (h1 (c - 1) (by omega)); omega
  have h3 := takeWhile_at c (l.drop a) hle h1 h2
  have h4 : cnt q (l.drop a) = c := by
    unfold cnt
    rw [h3, List.length_take]
    omega
  refine ⟨h4, ?_⟩
  rw [h3, tw_take, hc, List.drop_take, List.take_take, Nat.min_eq_left (by omega)]

theorem apartT_eq {l : List UInt8} {n : Nat} {r r' : Nat × List UInt8 × Nat} (h : apartT l n r = .ok r') : isAt symB l n = false ∧ r = r' := by
  unfold apartT at h
  split at h
  · cases h
  · rename_i hs
    exact ⟨by simpa using hs, by injection h⟩
theorem apartT_of {l : List UInt8} {n : Nat} {r : Nat × List UInt8 × Nat} (h : isAt symB l n = false) : apartT l n r = .ok r := by
  unfold apartT; rw [h]; rfl

theorem dot_sym {l : List UInt8} {n : Nat} (h : isAt dotB l n = true) : isAt symB l n = true := by
  have hl := isAt_lt' h
  rw [isAt_lt hl] at h ⊢
  have : l[n] = 46 := UInt8.toNat.inj (by simpa [dotB] using h)
  rw [this]
  rfl

theorem quo_cut : ∀ (l acc : List UInt8) (n m : Nat) {k r : Nat} {t : List UInt8}, quoT (l.take m) acc n = .ok (k, t, r) → r < n + m → quoT l acc n = .ok (k, t, r)
  | [], acc, n, m, k, r, t, h, hr => by simpa using h
  | [c], acc, n, m, k, r, t, h, hr => by
    cases m with
    | zero => simp [quoT] at h
    | succ m => simpa using h
  | c :: d :: l, acc, n, m, k, r, t, h, hr => by
    match m with
    | 0 => simp [quoT] at h
    | 1 =>
      have := quoT_pos _ _ _ h
      omega
    | m + 2 =>
      simp only [List.take_succ_cons] at h
      unfold quoT at h ⊢
      split at h
      · rename_i hc
        rw [if_pos hc]
        split at h
        · rename_i hd
          rw [if_pos hd]
          exact quo_cut l _ _ m h (by omega)
        · rename_i hd
          rw [if_neg hd]
          exact h
      · rename_i hc
        rw [if_neg hc]
        split at h
        · rename_i ht
          rw [if_pos ht]
          have := quo_cut (d :: l) (acc ++ [c]) (n + 1) (m + 1) (by simpa using h) (by omega)
          exact this
        · cases h

theorem num_cut {l : List UInt8} {m k n : Nat} {t : List UInt8} (h : numT (l.take m) = .ok (k, t, n)) (hn : n < m) (h0 : 0 < n) : numT l = .ok (k, t, n) := by
  unfold numT at h ⊢
  split at h
  · cases h
  · rename_i hz
    have hz' : ¬ (isAt (fun c => c.toNat == 48) l 0 && isAt digitB l 1) = true := by
      rw [isAt_take (by omega), isAt_take (by omega)] at hz
      exact hz
    rw [if_neg hz']
    split at h
    · rename_i hd
      obtain ⟨hs, he⟩ := apartT_eq h
      simp only [Prod.mk.injEq] at he
      obtain ⟨rfl, ht, hnn⟩ := he
      simp only [Bool.and_eq_true] at hd
      have hd1 := isAt_take_true hd.1
      have hd2 := isAt_take_true hd.2
      have c1 := (cnt_cut (q := digitB) (l := l) (m := m) (a := 0) (by simpa using hd1.1)).1
      simp only [List.drop_zero] at c1
      have c2 := (cnt_cut (q := digitB) (l := l) (m := m) (a := cnt digitB (l.take m) + 1) (by omega)).1
      rw [c1, hd1.2, hd2.2, c2]
      simp only [Bool.and_self, if_true]
      rw [hnn] at hs ⊢
      rw [apartT_of (by rw [isAt_take hn] at hs; exact hs)]
      rw [← ht, hnn, List.take_take, Nat.min_eq_left (by omega)]
    · rename_i hd
      obtain ⟨hs, he⟩ := apartT_eq h
      simp only [Prod.mk.injEq] at he
      obtain ⟨rfl, ht, hnn⟩ := he
      have hlt : cnt digitB (l.take m) < m := by omega
      have c1 := (cnt_cut (q := digitB) (l := l) (m := m) (a := 0) (by simpa using hlt)).1
      simp only [List.drop_zero] at c1
      have hs' := hs
      rw [isAt_take hlt] at hs'
      have hdot : isAt dotB l (cnt digitB (l.take m)) = false := by
        cases hx : isAt dotB l (cnt digitB (l.take m))
        · rfl
        · rw [dot_sym hx] at hs'; cases hs'
      rw [c1, hdot]
      simp only [Bool.false_and, Bool.false_eq_true, if_false]
      rw [apartT_of hs', ← ht, hnn, List.take_take, Nat.min_eq_left (by omega)]

theorem bitsOf_cut {l : List UInt8} {m k k' n : Nat} {t : List UInt8} {q : UInt8 → Bool} (h : bitsOf (l.take m) k' q = .ok (k, t, n)) (hn : n < m) : bitsOf l k' q = .ok (k, t, n) := by
  unfold bitsOf at h ⊢
  split at h
  · rename_i hq
    have hq' := isAt_take_true hq
    rw [if_pos hq'.2]
    obtain ⟨hs, he⟩ := apartT_eq h
    simp only [Prod.mk.injEq] at he
    obtain ⟨rfl, ht, hnn⟩ := he
    have c1 := cnt_cut (q := q) (l := l) (m := m) (a := 2) (by omega)
    rw [c1.1, c1.2, apartT_of (by rw [isAt_take (by omega)] at hs; exact hs), ht, hnn]
  · cases h

/-- A token that ends ahead of the cut is the whole text's. -/
theorem tok_cut {l : List UInt8} {m k n : Nat} {t : List UInt8} (h : tokT (l.take m) = .ok (k, t, n)) (hn : n < m) : tokT l = .ok (k, t, n) := by
  have h0 := tok_pos h
  cases l with
  | nil => simp [tokT] at h
  | cons c r =>
    obtain ⟨m, rfl⟩ : ∃ m', m = m' + 1 := ⟨m - 1, by omega⟩
    have e : (c :: r).take (m + 1) = c :: r.take m := rfl
    rw [e] at h
    simp only [tokT] at h ⊢
    rw [← e] at h
    split at h
    · rename_i hp
      rw [if_pos hp]
      unfold parenT at h ⊢
      rw [isAt_take (by omega)] at h
      exact h
    rename_i hp
    rw [if_neg hp]
    split at h
    · rename_i hp
      rw [if_pos hp]
      exact num_cut h hn h0
    rename_i hp
    rw [if_neg hp]
    split at h
    · rename_i hp
      rw [if_pos hp]
      unfold bitsT at h ⊢
      split at h
      · rename_i hx
        rw [if_pos (isAt_take_true hx).2]
        exact bitsOf_cut h hn
      · rename_i hx
        split at h
        · rename_i hb
          have hb' := isAt_take_true hb
          rw [isAt_take hb'.1] at hx
          rw [if_neg hx, if_pos hb'.2]
          exact bitsOf_cut h hn
        · cases h
    rename_i hp
    rw [if_neg hp]
    split at h
    · rename_i hp
      rw [if_pos hp]
      exact quo_cut r [] 1 m h (by omega)
    rename_i hp
    rw [if_neg hp]
    split at h
    · rename_i hp
      rw [if_pos hp]
      unfold keyT at h ⊢
      split at h
      · rename_i hx
        rw [if_pos (isAt_take_true hx).2]
        injection h with h
        simp only [Prod.mk.injEq] at h
        obtain ⟨rfl, ht, hnn⟩ := h
        have c1 := cnt_cut (q := symB) (l := c :: r) (m := m + 1) (a := 1) (by omega)
        rw [c1.1, c1.2, ht, hnn]
      · cases h
    rename_i hp
    rw [if_neg hp]
    split at h
    · rename_i hp
      rw [if_pos hp]
      unfold barT at h ⊢
      split at h
      · rename_i hx
        have hx' := isAt_take_true hx
        injection h with h
        simp only [Prod.mk.injEq] at h
        obtain ⟨rfl, ht, hnn⟩ := h
        have c1 := cnt_cut (q := barB) (l := c :: r) (m := m + 1) (a := 1) hx'.1
        rw [c1.1, c1.2, if_pos hx'.2, ht, hnn]
      · cases h
    rename_i hp
    rw [if_neg hp]
    split at h
    · rename_i hp
      rw [if_pos hp]
      unfold symT at h ⊢
      injection h with h
      simp only [Prod.mk.injEq] at h
      obtain ⟨hk, ht, hnn⟩ := h
      have c1 := cnt_cut (q := symB) (l := c :: r) (m := m + 1) (a := 0) (by simpa using (show cnt symB ((c :: r).take (m + 1)) < m + 1 by omega))
      simp only [List.drop_zero] at c1
      rw [c1.1, c1.2, hk, ht, hnn]
    · cases h

theorem skip_cut : ∀ (b : Bool) (l : List UInt8) (m : Nat), skipS b (l.take m) < m → skipS b l = skipS b (l.take m)
  | b, [], m, _ => by simp
  | b, c :: l, 0, h => by omega
  | true, c :: l, m + 1, h => by
    simp only [List.take_succ_cons, skipS] at h ⊢
    split
    · rename_i hc
      rw [if_pos hc] at h
      rw [skip_cut false l m (by omega)]
    · rename_i hc
      rw [if_neg hc] at h
      rw [skip_cut true l m (by omega)]
  | false, c :: l, m + 1, h => by
    simp only [List.take_succ_cons, skipS] at h ⊢
    split
    · rename_i hc
      rw [if_pos hc] at h
      rw [skip_cut false l m (by omega)]
    · rename_i hc
      rw [if_neg hc] at h
      split
      · rename_i hd
        rw [if_pos hd] at h
        rw [skip_cut true l m (by omega)]
      · rfl

theorem lexFrom_end {bs : List UInt8} {f p : Nat} (h : bs.length ≤ p) : lexFrom bs f p = .ok [] := by
  cases f with
  | zero => rfl
  | succ f => rw [lexFrom, if_neg (by omega)]

theorem lexFrom_cut {bs : List UInt8} {k : Nat} (hk : k ≤ bs.length) : ∀ (f' f p : Nat) (x l : List (Nat × List UInt8 × Nat)), k < f' + p → bs.length < f + p → lexFrom (bs.take k) f' p = .ok x → lexFrom bs f p = .ok l →
    x.length ≤ l.length ∧ x.take (x.length - 1) = l.take (x.length - 1)
  | 0, f, p, x, l, hf', hf, hx, hl => by
    rw [lexFrom_end (by rw [List.length_take]; omega)] at hx
    injection hx with hx
    subst hx
    simp
  | f' + 1, f, p, x, l, hf', hf, hx, hl => by
    have hlk : (bs.take k).length = k := by rw [List.length_take]; omega
    rcases Nat.lt_or_ge p k with hp | hp
    · rw [lexFrom, if_pos (by omega)] at hx
      obtain ⟨f, rfl⟩ : ∃ g, f = g + 1 := ⟨f - 1, by omega⟩
      rw [lexFrom, if_pos (by omega)] at hl
      rw [List.drop_take] at hx
      cases ht' : tokT ((bs.drop p).take (k - p)) with
      | error o => rw [ht'] at hx; cases hx
      | ok y =>
        obtain ⟨kd, t, n⟩ := y
        rw [ht'] at hx
        cases ht : tokT (bs.drop p) with
        | error o => rw [ht] at hl; cases hl
        | ok z =>
          obtain ⟨kd2, t2, n2⟩ := z
          rw [ht] at hl
          have hn := tok_pos ht'
          have hnl := tok_le ht'
          rw [List.length_take, List.length_drop] at hnl
          simp only at hx hl
          cases h1 : lexFrom bs f (p + n2 + skipS false (bs.drop (p + n2))) with
          | error e => rw [h1] at hl; cases hl
          | ok l1 =>
            rw [h1] at hl
            injection hl with hl
            cases h2 : lexFrom (bs.take k) f' (p + n + skipS false ((bs.take k).drop (p + n))) with
            | error e => rw [h2] at hx; cases hx
            | ok x1 =>
              rw [h2] at hx
              injection hx with hx
              subst hx hl
              have hsk := skip_le false ((bs.take k).drop (p + n))
              rw [List.length_drop, hlk] at hsk
              rcases Nat.lt_or_ge (p + n + skipS false ((bs.take k).drop (p + n))) k with hq | hq
              · have hsame := tok_cut ht' (by omega)
                rw [ht] at hsame
                injection hsame with hsame
                simp only [Prod.mk.injEq] at hsame
                obtain ⟨rfl, rfl, rfl⟩ := hsame
                have hs : skipS false (bs.drop (p + n2)) = skipS false ((bs.take k).drop (p + n2)) := by
                  rw [List.drop_take] at hq ⊢
                  exact skip_cut false _ _ (by omega)
                rw [hs] at h1
                have ih := lexFrom_cut hk f' f _ x1 l1 (by omega) (by omega) h2 h1
                refine ⟨by simp; exact ih.1, ?_⟩
                cases x1 with
                | nil => simp
                | cons a x1 =>
                  have := ih.2
                  simp only [List.length_cons, Nat.add_sub_cancel] at this ⊢
                  rw [List.take_succ_cons, List.take_succ_cons, this]
              · rw [lexFrom_end (by omega)] at h2
                injection h2 with h2
                subst h2
                simp
    · rw [lexFrom_end (by omega)] at hx
      injection hx with hx
      subst hx
      simp

/-- The tokens of a text that is cut, but the last one, are those of the whole text. -/
theorem lex_cut {bs : List UInt8} {k : Nat} (hk : k ≤ bs.length) {x l : List (Nat × List UInt8 × Nat)} (hx : lex (bs.take k) = .ok x) (hl : lex bs = .ok l) :
    x.length ≤ l.length ∧ x.take (x.length - 1) = l.take (x.length - 1) := by
  have hlk : (bs.take k).length = k := by rw [List.length_take]; omega
  unfold lex at hx hl
  rw [hlk] at hx
  rcases Nat.lt_or_ge (skipS false (bs.take k)) k with hq | hq
  · rw [skip_cut false bs k hq] at hl
    exact lexFrom_cut hk _ _ _ x l (by omega) (by omega) hx hl
  · rw [lexFrom_end (by omega)] at hx
    injection hx with hx
    subst hx
    simp

theorem quo_err : ∀ (l acc : List UInt8) (n : Nat) {o : Nat}, quoT l acc n = .error o → o ≤ n + l.length
  | [], acc, n, o, h => by simp only [quoT, Except.error.injEq] at h; simp; omega
  | [c], acc, n, o, h => by
    unfold quoT at h
    split at h
    · cases h
    · split at h <;> (injection h with h; simp; omega)
  | c :: d :: r, acc, n, o, h => by
    unfold quoT at h
    simp only [List.length_cons]
    split at h
    · split at h
      · have := quo_err r _ _ h; omega
      · cases h
    · split at h
      · have := quo_err (d :: r) _ _ h; simp only [List.length_cons] at this; omega
      · injection h with h; omega

theorem apart_err {l : List UInt8} {n o : Nat} {r : Nat × List UInt8 × Nat} (h : apartT l n r = .error o) : o ≤ l.length := by
  unfold apartT at h
  split at h
  · rename_i hs
    have := isAt_lt' hs
    injection h with h
    omega
  · cases h
theorem bitsOf_err {l : List UInt8} {k o : Nat} {q : UInt8 → Bool} (h : bitsOf l k q = .error o) (hl : 2 ≤ l.length) : o ≤ l.length := by
  unfold bitsOf at h
  split at h
  · exact apart_err h
  · injection h with h; omega

theorem tok_err {l : List UInt8} {o : Nat} (h : tokT l = .error o) : o ≤ l.length := by
  cases l with
  | nil => simp only [tokT, Except.error.injEq] at h; omega
  | cons c r =>
    simp only [tokT] at h
    split at h
    · unfold parenT at h
      split at h <;> cases h
    split at h
    · unfold numT at h
      split at h
      · injection h with h; simp; omega
      · split at h
        · exact apart_err h
        · exact apart_err h
    split at h
    · unfold bitsT at h
      split at h
      · rename_i hx
        have := isAt_lt' hx
        exact bitsOf_err h (by omega)
      · split at h
        · rename_i hx
          have := isAt_lt' hx
          exact bitsOf_err h (by omega)
        · injection h with h; simp; omega
    split at h
    · have := quo_err _ _ _ h; simp only [List.length_cons]; omega
    split at h
    · unfold keyT at h
      split at h
      · cases h
      · injection h with h; simp; omega
    split at h
    · unfold barT at h
      split at h
      · cases h
      · have := cnt_drop_le barB (c :: r) 1 (by simp)
        injection h with h; omega
    split at h
    · unfold symT at h
      cases h
    · injection h with h; omega

theorem lexFrom_err {bs : List UInt8} : ∀ (f p : Nat) {a : Nat}, lexFrom bs f p = .error a → a ≤ bs.length
  | 0, p, a, h => by cases h
  | f + 1, p, a, h => by
    rw [lexFrom] at h
    split at h
    · rename_i hp
      cases ht : tokT (bs.drop p) with
      | error o =>
        rw [ht] at h
        have := tok_err ht
        rw [List.length_drop] at this
        injection h with h
        omega
      | ok y =>
        obtain ⟨k, t, n⟩ := y
        rw [ht] at h
        simp only at h
        cases h1 : lexFrom bs f (p + n + skipS false (bs.drop (p + n))) with
        | error e =>
          rw [h1] at h
          injection h with h
          have := lexFrom_err f _ h1
          omega
        | ok l => rw [h1] at h; cases h
    · cases h
theorem lex_err {bs : List UInt8} {a : Nat} (h : lex bs = .error a) : a ≤ bs.length := lexFrom_err _ _ h
end Go.Proofs.YtajlibegalbbmaaDoor
