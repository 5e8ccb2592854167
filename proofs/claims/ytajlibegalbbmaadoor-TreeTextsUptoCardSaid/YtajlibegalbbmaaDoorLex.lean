/- Plain words on all tokens of a text: no program in sight. -/
import Derived.Test.YtajlibegalbbmaaDoorPlain
namespace Go.Proofs.YtajlibegalbbmaaDoor

/-- The tokens from a place on, at which no blank stands: kind, text, place of each; or where the first one that can't be is wrong. -/
def lexFrom (bs : List UInt8) : Nat → Nat → Except Nat (List (Nat × List UInt8 × Nat))
  | 0, _ => .ok []
  | f + 1, p =>
    if p < bs.length then
      match tokT (bs.drop p) with
      | .error o => .error (p + o)
      | .ok (k, t, n) =>
        match lexFrom bs f (p + n + skipS false (bs.drop (p + n))) with
        | .error e => .error e
        | .ok l => .ok ((k, t, p) :: l)
    else .ok []
def lex (bs : List UInt8) : Except Nat (List (Nat × List UInt8 × Nat)) := lexFrom bs (bs.length + 1) (skipS false bs)
def lexOn (toks : List (Nat × List UInt8 × Nat)) : Except Nat (List (Nat × List UInt8 × Nat)) → Except Nat (List (Nat × List UInt8 × Nat))
  | .error e => .error e
  | .ok l => .ok (toks ++ l)

theorem apartT_ok {l : List UInt8} {n : Nat} {r r' : Nat × List UInt8 × Nat} (h : apartT l n r = .ok r') : r = r' := by
  unfold apartT at h
  split at h
  · cases h
  · injection h
theorem quoT_pos : ∀ (l acc : List UInt8) (n : Nat) {k m : Nat} {t : List UInt8}, quoT l acc n = .ok (k, t, m) → n < m
  | [], acc, n, k, m, t, h => by simp [quoT] at h
  | [c], acc, n, k, m, t, h => by
    unfold quoT at h
    split at h
    · injection h with h; injection h with _ h; injection h with _ h; omega
    · split at h <;> cases h
  | c :: d :: r, acc, n, k, m, t, h => by
    unfold quoT at h
    split at h
    · split at h
      · have := quoT_pos r _ _ h; omega
      · injection h with h; injection h with _ h; injection h with _ h; omega
    · split at h
      · have := quoT_pos (d :: r) _ _ h; omega
      · cases h
theorem cnt_pos {q : UInt8 → Bool} {c : UInt8} {r : List UInt8} (h : q c = true) : 0 < cnt q (c :: r) := by simp [cnt, h]

theorem tok_pos {l : List UInt8} {k n : Nat} {t : List UInt8} (h : tokT l = .ok (k, t, n)) : 0 < n := by
  cases l with
  | nil => simp [tokT] at h
  | cons c r =>
    simp only [tokT] at h
    split at h
    · unfold parenT at h
      split at h <;> (injection h with h; injection h with _ h; injection h with _ h; omega)
    split at h
    · rename_i hd
      have hp := cnt_pos (q := digitB) (r := r) hd
      unfold numT at h
      split at h
      · cases h
      · split at h
        · have := apartT_ok h; injection this with _ h; injection h with _ h; omega
        · have := apartT_ok h; injection this with _ h; injection h with _ h; omega
    split at h
    · unfold bitsT at h
      split at h
      · unfold bitsOf at h
        split at h
        · have := apartT_ok h; injection this with _ h; injection h with _ h; omega
        · cases h
      · split at h
        · unfold bitsOf at h
          split at h
          · have := apartT_ok h; injection this with _ h; injection h with _ h; omega
          · cases h
        · cases h
    split at h
    · have := quoT_pos _ _ _ h; omega
    split at h
    · unfold keyT at h
      split at h
      · injection h with h; injection h with _ h; injection h with _ h; omega
      · cases h
    split at h
    · unfold barT at h
      split at h
      · injection h with h; injection h with _ h; injection h with _ h; omega
      · cases h
    split at h
    · rename_i hs
      have hp := cnt_pos (q := symB) (r := r) hs
      unfold symT at h
      injection h with h; injection h with _ h; injection h with _ h; omega
    · cases h

theorem cnt_le (q : UInt8 → Bool) (l : List UInt8) : cnt q l ≤ l.length := by unfold cnt; exact (List.takeWhile_sublist _).length_le
theorem quoT_le : ∀ (l acc : List UInt8) (n : Nat) {k m : Nat} {t : List UInt8}, quoT l acc n = .ok (k, t, m) → m ≤ n + l.length
  | [], acc, n, k, m, t, h => by simp [quoT] at h
  | [c], acc, n, k, m, t, h => by
    unfold quoT at h
    split at h
    · injection h with h; injection h with _ h; injection h with _ h; simp; omega
    · split at h <;> cases h
  | c :: d :: r, acc, n, k, m, t, h => by
    unfold quoT at h
    simp only [List.length_cons]
    split at h
    · split at h
      · have := quoT_le r _ _ h; omega
      · injection h with h; injection h with _ h; injection h with _ h; omega
    · split at h
      · have := quoT_le (d :: r) _ _ h; simp only [List.length_cons] at this; omega
      · cases h
theorem isAt_lt' {q : UInt8 → Bool} {l : List UInt8} {n : Nat} (h : isAt q l n = true) : n < l.length := by
  rcases Nat.lt_or_ge n l.length with h' | h'
  · exact h'
  · rw [isAt_ge h'] at h; cases h
theorem cnt_drop_le (q : UInt8 → Bool) (l : List UInt8) (n : Nat) (h : n ≤ l.length) : n + cnt q (l.drop n) ≤ l.length := by
  have := cnt_le q (l.drop n)
  rw [List.length_drop] at this
  omega

/-- A token's bytes lie in the list. -/
theorem tok_le {l : List UInt8} {k n : Nat} {t : List UInt8} (h : tokT l = .ok (k, t, n)) : n ≤ l.length := by
  cases l with
  | nil => simp [tokT] at h
  | cons c r =>
    simp only [tokT] at h
    split at h
    · unfold parenT at h
      split at h <;> (injection h with h; injection h with _ h; injection h with _ h; simp; omega)
    split at h
    · have hd := cnt_le digitB (c :: r)
      unfold numT at h
      split at h
      · cases h
      · split at h
        · rename_i hdot
          simp only [Bool.and_eq_true] at hdot
          have := isAt_lt' hdot.2
          have h2 := cnt_drop_le digitB (c :: r) (cnt digitB (c :: r) + 1) (by omega)
          have := apartT_ok h; injection this with _ h; injection h with _ h; omega
        · have := apartT_ok h; injection this with _ h; injection h with _ h; omega
    split at h
    · unfold bitsT at h
      split at h
      · unfold bitsOf at h
        split at h
        · rename_i h1 h2
          have := isAt_lt' h2
          have h3 := cnt_drop_le hexB (c :: r) 2 (by omega)
          have := apartT_ok h; injection this with _ h; injection h with _ h; omega
        · cases h
      · split at h
        · unfold bitsOf at h
          split at h
          · rename_i h1 h2
            have := isAt_lt' h2
            have h3 := cnt_drop_le binB (c :: r) 2 (by omega)
            have := apartT_ok h; injection this with _ h; injection h with _ h; omega
          · cases h
        · cases h
    split at h
    · have := quoT_le _ _ _ h; simp only [List.length_cons]; omega
    split at h
    · unfold keyT at h
      split at h
      · have h3 := cnt_drop_le symB (c :: r) 1 (by simp)
        injection h with h; injection h with _ h; injection h with _ h; omega
      · cases h
    split at h
    · unfold barT at h
      split at h
      · rename_i hb
        have := isAt_lt' hb
        injection h with h; injection h with _ h; injection h with _ h; omega
      · cases h
    split at h
    · have hp := cnt_le symB (c :: r)
      unfold symT at h
      injection h with h; injection h with _ h; injection h with _ h; omega
    · cases h
end Go.Proofs.YtajlibegalbbmaaDoor
