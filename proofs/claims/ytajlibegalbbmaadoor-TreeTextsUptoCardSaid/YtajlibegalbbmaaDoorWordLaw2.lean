/- The plain law of TokenWords and TokenJoins, second part: how a token stands in a text. No program in sight. -/
import Derived.Test.YtajlibegalbbmaaDoorWordLaw
namespace Go.Proofs.YtajlibegalbbmaaDoor

/-- A string's text with each quote twice. -/
def escT : List UInt8 → List UInt8
  | [] => []
  | c :: r => if quoteB c then c :: 34 :: escT r else c :: escT r

theorem quo_shape : ∀ (l acc : List UInt8) (n : Nat) {k m : Nat} {t : List UInt8}, quoT l acc n = .ok (k, t, m) → k = 9 ∧ ∃ u, t = acc ++ u ∧ m = n + (escT u).length + 1
  | [], acc, n, k, m, t, h => by simp [quoT] at h
  | [c], acc, n, k, m, t, h => by
    unfold quoT at h
    split at h
    · injection h with h
      simp only [Prod.mk.injEq] at h
      obtain ⟨rfl, rfl, rfl⟩ := h
      exact ⟨rfl, [], by simp, by simp [escT]⟩
    · split at h <;> cases h
  | c :: d :: r, acc, n, k, m, t, h => by
    unfold quoT at h
    split at h
    · split at h
      · obtain ⟨hk, u, rfl, rfl⟩ := quo_shape r _ _ h
        exact ⟨hk, 34 :: u, by simp, by rw [escT, if_pos (show quoteB 34 = true from rfl)]; simp only [List.length_cons]; omega⟩
      · injection h with h
        simp only [Prod.mk.injEq] at h
        obtain ⟨rfl, rfl, rfl⟩ := h
        exact ⟨rfl, [], by simp, by simp [escT]⟩
    · rename_i hc
      split at h
      · obtain ⟨hk, u, rfl, rfl⟩ := quo_shape (d :: r) _ _ h
        exact ⟨hk, c :: u, by simp, by rw [escT, if_neg hc]; simp only [List.length_cons]; omega⟩
      · cases h

/-- What a token's bytes are as many as. -/
structure Shape (l : List UInt8) (k : Nat) (t : List UInt8) (n : Nat) : Prop where
  lo : 1 ≤ k
  hi : k ≤ 10
  plain : k ≤ 6 → n = t.length ∨ (k = 3 ∧ n = t.length + 2)
  bits : k = 7 ∨ k = 8 → n = t.length + 2
  quo : k = 9 → n = (escT t).length + 2
  key : k = 10 → n = t.length + 1
  bar : l.head? = some 124 → n = t.length + 2

theorem Shape.of_plain {l : List UInt8} {k : Nat} {t : List UInt8} {n : Nat} (h1 : 1 ≤ k) (h6 : k ≤ 6) (h : n = t.length) (hb : l.head? ≠ some 124) : Shape l k t n :=
  ⟨h1, by omega, fun _ => .inl h, fun e => by omega, fun e => by omega, fun e => by omega, fun e => absurd e hb⟩

theorem tok_shape {l : List UInt8} {k n : Nat} {t : List UInt8} (h : tokT l = .ok (k, t, n)) : Shape l k t n := by
  have hle := tok_le h
  cases l with
  | nil => simp [tokT] at h
  | cons c r =>
    simp only [tokT] at h
    split at h
    · rename_i hp
      have hb : (c :: r).head? ≠ some 124 := by
        intro e
        simp at e
        subst e
        revert hp
        decide
      unfold parenT at h
      split at h <;> (injection h with h; simp only [Prod.mk.injEq] at h; obtain ⟨rfl, rfl, rfl⟩ := h; exact .of_plain (by omega) (by omega) rfl hb)
    split at h
    · rename_i hp
      have hb : (c :: r).head? ≠ some 124 := by
        intro e
        simp at e
        subst e
        revert hp
        decide
      unfold numT at h
      split at h
      · cases h
      · split at h
        · have := apartT_ok h
          simp only [Prod.mk.injEq] at this
          obtain ⟨rfl, rfl, rfl⟩ := this
          exact .of_plain (by omega) (by omega) (by rw [List.length_take]; omega) hb
        · have := apartT_ok h
          simp only [Prod.mk.injEq] at this
          obtain ⟨rfl, rfl, rfl⟩ := this
          exact .of_plain (by omega) (by omega) (by rw [List.length_take]; omega) hb
    split at h
    · rename_i hp
      have hb : (c :: r).head? ≠ some 124 := by
        intro e
        simp at e
        subst e
        revert hp
        decide
      have key : ∀ k' q, k' = 7 ∨ k' = 8 → bitsOf (c :: r) k' q = .ok (k, t, n) → Shape (c :: r) k t n := by
        intro k' q hk h
        unfold bitsOf at h
        split at h
        · have := apartT_ok h
          simp only [Prod.mk.injEq] at this
          obtain ⟨rfl, rfl, rfl⟩ := this
          exact ⟨by omega, by omega, fun e => by omega, fun _ => by unfold cnt; omega, fun e => by omega, fun e => by omega, fun e => absurd e hb⟩
        · cases h
      unfold bitsT at h
      split at h
      · exact key _ _ (.inl rfl) h
      · split at h
        · exact key _ _ (.inr rfl) h
        · cases h
    split at h
    · rename_i hp
      have hb : (c :: r).head? ≠ some 124 := by
        intro e
        simp at e
        subst e
        revert hp
        decide
      obtain ⟨rfl, u, hu, rfl⟩ := quo_shape _ _ _ h
      have hu : t = u := by simpa using hu
      subst hu
      exact ⟨by omega, by omega, fun e => by omega, fun e => by omega, fun _ => by omega, fun e => by omega, fun e => absurd e hb⟩
    split at h
    · rename_i hp
      have hb : (c :: r).head? ≠ some 124 := by
        intro e
        simp at e
        subst e
        revert hp
        decide
      unfold keyT at h
      split at h
      · injection h with h
        simp only [Prod.mk.injEq] at h
        obtain ⟨rfl, rfl, rfl⟩ := h
        exact ⟨by omega, by omega, fun e => by omega, fun e => by omega, fun e => by omega, fun _ => by unfold cnt; omega, fun e => absurd e hb⟩
      · cases h
    split at h
    · unfold barT at h
      split at h
      · injection h with h
        simp only [Prod.mk.injEq] at h
        obtain ⟨rfl, rfl, rfl⟩ := h
        exact ⟨by omega, by omega, fun _ => .inr ⟨rfl, by unfold cnt; omega⟩, fun e => by omega, fun e => by omega, fun e => by omega, fun _ => by unfold cnt; omega⟩
      · cases h
    rename_i hp
    split at h
    · have hb : (c :: r).head? ≠ some 124 := by
        intro e
        simp at e
        subst e
        exact hp (by decide)
      unfold symT at h
      injection h with h
      simp only [Prod.mk.injEq] at h
      obtain ⟨hk, rfl, rfl⟩ := h
      exact .of_plain (by split at hk <;> omega) (by split at hk <;> omega) (by unfold cnt; rfl) hb
    · cases h

theorem lex_one {s : List UInt8} {k p : Nat} {t : List UInt8} (h : lex s = .ok [(k, t, p)]) : p = skipS false s ∧ p < s.length ∧ ∃ n, tokT (s.drop p) = .ok (k, t, n) := by
  unfold lex at h
  rw [lexFrom] at h
  split at h
  · rename_i hp
    cases ht : tokT (s.drop (skipS false s)) with
    | error o => rw [ht] at h; cases h
    | ok y =>
      obtain ⟨k', t', n⟩ := y
      rw [ht] at h
      simp only at h
      cases h1 : lexFrom s s.length (skipS false s + n + skipS false (s.drop (skipS false s + n))) with
      | error e => rw [h1] at h; cases h
      | ok l =>
        rw [h1] at h
        injection h with h
        simp only [List.cons.injEq, Prod.mk.injEq] at h
        obtain ⟨⟨rfl, rfl, rfl⟩, _⟩ := h
        exact ⟨rfl, hp, n, ht⟩
  · cases h

/-- A word that is read as one token, of this kind and text. -/
def triedT (k : Int) (t s : List UInt8) : Bool := match lex s with
  | .ok [(k', t', _)] => decide ((k' : Int) = k) && decide (t' = t)
  | _ => false

/-- Where a word is read as a token whose bytes it has room for alone, it is all of it. -/
theorem tried_full {k : Int} {t s : List UInt8} (h : triedT k t s = true) (hs : ∀ (k' n p : Nat), (k' : Int) = k → p = skipS false s → p + n ≤ s.length → Shape (s.drop p) k' t n → p = 0 ∧ n = s.length) : ∃ k' : Nat, (k' : Int) = k ∧ tokT s = .ok (k', t, s.length) := by
  unfold triedT at h
  split at h
  · rename_i k' t' p hl
    simp only [Bool.and_eq_true, decide_eq_true_eq] at h
    obtain ⟨hk, rfl⟩ := h
    obtain ⟨hp, hps, n, ht⟩ := lex_one hl
    have hle := tok_le ht
    rw [List.length_drop] at hle
    obtain ⟨hp0, hn⟩ := hs k' n p hk hp (by omega) (tok_shape ht)
    subst hp0
    rw [List.drop_zero, hn] at ht
    exact ⟨k', hk, ht⟩
  · cases h

/-- The word of a token, if it has one. -/
def wordT (k : Int) (t : List UInt8) : Option (List UInt8) :=
  if k = 3 then (if triedT k t t then some t else if triedT k t (124 :: (t ++ [124])) then some (124 :: (t ++ [124])) else none)
  else if k = 7 then (if triedT k t (35 :: 120 :: t) then some (35 :: 120 :: t) else none)
  else if k = 8 then (if triedT k t (35 :: 98 :: t) then some (35 :: 98 :: t) else none)
  else if k = 9 then (if triedT k t (34 :: (escT t ++ [34])) then some (34 :: (escT t ++ [34])) else none)
  else if k = 10 then (if triedT k t (58 :: t) then some (58 :: t) else none)
  else (if triedT k t t then some t else none)

theorem tried_plain {k : Int} {t : List UInt8} (h : triedT k t t = true) (hk : k ≤ 6 ∨ 10 < k) : ∃ k' : Nat, (k' : Int) = k ∧ tokT t = .ok (k', t, t.length) := by
  refine tried_full h fun k' n p hk' hp hn hsh => ?_
  have := hsh.hi
  rcases hsh.plain (by omega) with h | ⟨_, h⟩
  · exact ⟨by omega, by omega⟩
  · omega
theorem tried_bar {k : Int} {t : List UInt8} (h : triedT k t (124 :: (t ++ [124])) = true) : ∃ k' : Nat, (k' : Int) = k ∧ tokT (124 :: (t ++ [124])) = .ok (k', t, (124 :: (t ++ [124])).length) := by
  refine tried_full h fun k' n p hk' hp hn hsh => ?_
  have hp0 : p = 0 := hp
  subst hp0
  have := hsh.bar rfl
  exact ⟨rfl, by simp; omega⟩
theorem tried_bits {k : Int} {t : List UInt8} {c : UInt8} (h : triedT k t (35 :: c :: t) = true) (hk : k = 7 ∨ k = 8) : ∃ k' : Nat, (k' : Int) = k ∧ tokT (35 :: c :: t) = .ok (k', t, (35 :: c :: t).length) := by
  refine tried_full h fun k' n p hk' hp hn hsh => ?_
  have hp0 : p = 0 := hp
  subst hp0
  have := hsh.bits (by omega)
  exact ⟨rfl, by simp; omega⟩
theorem tried_quo {k : Int} {t : List UInt8} (h : triedT k t (34 :: (escT t ++ [34])) = true) (hk : k = 9) : ∃ k' : Nat, (k' : Int) = k ∧ tokT (34 :: (escT t ++ [34])) = .ok (k', t, (34 :: (escT t ++ [34])).length) := by
  refine tried_full h fun k' n p hk' hp hn hsh => ?_
  have hp0 : p = 0 := hp
  subst hp0
  have := hsh.quo (by omega)
  exact ⟨rfl, by simp; omega⟩
theorem tried_key {k : Int} {t : List UInt8} (h : triedT k t (58 :: t) = true) (hk : k = 10) : ∃ k' : Nat, (k' : Int) = k ∧ tokT (58 :: t) = .ok (k', t, (58 :: t).length) := by
  refine tried_full h fun k' n p hk' hp hn hsh => ?_
  have hp0 : p = 0 := hp
  subst hp0
  have := hsh.key (by omega)
  exact ⟨rfl, by simp; omega⟩

/-- A word is read as its token, and all of it is the token's. -/
theorem word_tok {k : Int} {t s : List UInt8} (h : wordT k t = some s) : ∃ k' : Nat, (k' : Int) = k ∧ tokT s = .ok (k', t, s.length) := by
  unfold wordT at h
  split at h
  · split at h
    · rename_i hk ht
      injection h with h
      subst h
      exact tried_plain ht (by omega)
    · split at h
      · rename_i ht
        injection h with h
        subst h
        exact tried_bar ht
      · cases h
  split at h
  · split at h
    · rename_i ht
      injection h with h
      subst h
      exact tried_bits ht (by omega)
    · cases h
  split at h
  · split at h
    · rename_i ht
      injection h with h
      subst h
      exact tried_bits ht (by omega)
    · cases h
  split at h
  · split at h
    · rename_i ht
      injection h with h
      subst h
      exact tried_quo ht (by omega)
    · cases h
  split at h
  · split at h
    · rename_i ht
      injection h with h
      subst h
      exact tried_key ht (by omega)
    · cases h
  · split at h
    · rename_i ht
      injection h with h
      subst h
      refine tried_full ht fun k' n p hk' hp hn hsh => ?_
      have := hsh.hi
      rcases hsh.plain (by omega) with h | ⟨_, h⟩
      · exact ⟨by omega, by omega⟩
      · omega
    · cases h

theorem escT_len (t : List UInt8) : (escT t).length ≤ 2 * t.length := by
  induction t with
  | nil => simp [escT]
  | cons c r ih => rw [escT]; split <;> simp only [List.length_cons] <;> omega
theorem word_len {k : Int} {t s : List UInt8} (h : wordT k t = some s) : s.length ≤ 2 * t.length + 2 := by
  have he := escT_len t
  unfold wordT at h
  repeat' split at h
  all_goals first
    | (injection h with h; subst h; simp only [List.length_cons, List.length_append, List.length_nil]; omega)
    | (injection h with h; subst h; omega)
    | cases h

/-! ### Words in a text -/

theorem lexFrom_word {bs : List UInt8} {f p : Nat} {s : List UInt8} {k : Nat} {t r : List UInt8} {c : UInt8} (hd : bs.drop p = s ++ c :: r) (hc : blankB c = true) (ht : tokT s = .ok (k, t, s.length)) {l : List (Nat × List UInt8 × Nat)} (hl : lexFrom bs f (p + s.length + 1 + skipS false r) = .ok l) : lexFrom bs (f + 1) p = .ok ((k, t, p) :: l) := by
  have hlen := congrArg List.length hd
  rw [List.length_drop] at hlen
  simp at hlen
  have hd2 : bs.drop (p + s.length) = c :: r := by rw [← List.drop_drop, hd, List.drop_left]
  have hsk : skipS false (bs.drop (p + s.length)) = 1 + skipS false r := by rw [hd2, skipS, if_pos hc]
  rw [lexFrom, if_pos (by omega), hd, tok_word ht hc]
  simp only
  rw [hsk, show p + s.length + (1 + skipS false r) = p + s.length + 1 + skipS false r by omega, hl]

theorem skip_comment : ∀ (cm : List UInt8) (r : List UInt8), (∀ c ∈ cm, c ≠ 10) → skipS true (cm ++ 10 :: r) = cm.length + 1 + skipS false r
  | [], r, _ => by simp [skipS]
  | c :: cm, r, h => by
    have hc : ¬ (c.toNat == 10) = true := by
      intro e
      exact h c (by simp) (UInt8.toNat.inj (by simpa using e))
    rw [List.cons_append, skipS, if_neg hc, skip_comment cm r (fun d hd => h d (by simp [hd]))]
    simp only [List.length_cons]
    omega

/-- The text that TokenWords makes. -/
def aroundT (cm s : List UInt8) : List UInt8 := 9 :: 59 :: (cm ++ 10 :: (s ++ [32, 13, 10]))

theorem lex_around {cm s : List UInt8} {k : Nat} {t : List UInt8} (hcm : ∀ c ∈ cm, c ≠ 10) (ht : tokT s = .ok (k, t, s.length)) : lex (aroundT cm s) = .ok [(k, t, cm.length + 3)] := by
  have h1 : skipS false (s ++ [32, 13, 10]) = 0 := tok_skip (tok_word ht (c := 32) rfl [13, 10])
  have h2 : skipS false (aroundT cm s) = cm.length + 3 := by
    show (1 + (1 + skipS true (cm ++ 10 :: (s ++ [32, 13, 10])))) = _
    rw [skip_comment _ _ hcm, h1]
    omega
  have hd : (aroundT cm s).drop (cm.length + 3) = s ++ 32 :: [13, 10] := by
    unfold aroundT
    rw [show cm.length + 3 = (cm.length + 1) + 1 + 1 by omega, List.drop_succ_cons, List.drop_succ_cons, ← List.drop_drop, List.drop_left]
    rfl
  unfold lex
  rw [h2]
  have hlen := congrArg List.length hd
  rw [List.length_drop] at hlen
  simp at hlen
  refine lexFrom_word hd rfl ht (lexFrom_end ?_)
  show _ ≤ _ + _ + 1 + 2
  omega

/-- Tokens with their words, one behind the other. -/
def joinedT (ws : List (Nat × List UInt8 × List UInt8)) : List UInt8 := ws.flatMap fun x => x.2.2 ++ [32]
def toksAt : Nat → List (Nat × List UInt8 × List UInt8) → List (Nat × List UInt8 × Nat)
  | _, [] => []
  | p, x :: r => (x.1, x.2.1, p) :: toksAt (p + x.2.2.length + 1) r
def GoodW (ws : List (Nat × List UInt8 × List UInt8)) : Prop := ∀ x ∈ ws, tokT x.2.2 = .ok (x.1, x.2.1, x.2.2.length)

theorem joined_skip {ws : List (Nat × List UInt8 × List UInt8)} (h : GoodW ws) : skipS false (joinedT ws) = 0 := by
  cases ws with
  | nil => rfl
  | cons x ws =>
    have := tok_skip (tok_word (h x (by simp)) (c := 32) rfl (joinedT ws))
    have e : joinedT (x :: ws) = x.2.2 ++ 32 :: joinedT ws := by simp [joinedT]
    rw [e]
    exact this

theorem lexFrom_joined : ∀ (ws : List (Nat × List UInt8 × List UInt8)) (bs : List UInt8) (p f : Nat), GoodW ws → bs.drop p = joinedT ws → p ≤ bs.length → bs.length < f + p → lexFrom bs f p = .ok (toksAt p ws)
  | [], bs, p, f, _, hd, hp, hf => by
    have := congrArg List.length hd
    rw [List.length_drop] at this
    simp [joinedT] at this
    exact lexFrom_end (by omega)
  | x :: ws, bs, p, f, hg, hd, hp, hf => by
    have e : joinedT (x :: ws) = x.2.2 ++ 32 :: joinedT ws := by simp [joinedT]
    rw [e] at hd
    have hlen := congrArg List.length hd
    rw [List.length_drop] at hlen
    simp only [List.length_append, List.length_cons] at hlen
    have hg' : GoodW ws := fun y hy => hg y (by simp [hy])
    obtain ⟨f, rfl⟩ : ∃ g, f = g + 1 := ⟨f - 1, by omega⟩
    have hd' : bs.drop (p + x.2.2.length + 1) = joinedT ws := by
      rw [Nat.add_assoc, ← List.drop_drop, hd, ← List.drop_drop, List.drop_left]
      rfl
    refine lexFrom_word hd rfl (hg x (by simp)) ?_
    rw [joined_skip hg', Nat.add_zero]
    exact lexFrom_joined ws bs _ f hg' hd' (by omega) (by omega)

theorem lex_joined {ws : List (Nat × List UInt8 × List UInt8)} (h : GoodW ws) : lex (joinedT ws) = .ok (toksAt 0 ws) := by
  unfold lex
  rw [joined_skip h]
  exact lexFrom_joined ws _ 0 _ h rfl (Nat.zero_le _) (by omega)

theorem joined_snoc (ws : List (Nat × List UInt8 × List UInt8)) (x : Nat × List UInt8 × List UInt8) : joinedT (ws ++ [x]) = joinedT ws ++ x.2.2 ++ [32] := by simp [joinedT]
theorem toksAt_snoc : ∀ (ws : List (Nat × List UInt8 × List UInt8)) (p : Nat) (x : Nat × List UInt8 × List UInt8), toksAt p (ws ++ [x]) = toksAt p ws ++ [(x.1, x.2.1, p + (joinedT ws).length)]
  | [], p, x => by simp [toksAt, joinedT]
  | y :: ws, p, x => by
    have e : joinedT (y :: ws) = y.2.2 ++ 32 :: joinedT ws := by simp [joinedT]
    rw [List.cons_append, toksAt, toksAt_snoc ws, toksAt, List.cons_append, e]
    simp only [List.length_append, List.length_cons]
    rw [show p + y.2.2.length + 1 + (joinedT ws).length = p + (y.2.2.length + ((joinedT ws).length + 1)) by omega]
theorem good_snoc {ws : List (Nat × List UInt8 × List UInt8)} {x : Nat × List UInt8 × List UInt8} (h : GoodW ws) (hx : tokT x.2.2 = .ok (x.1, x.2.1, x.2.2.length)) : GoodW (ws ++ [x]) := by
  intro y hy
  rcases List.mem_append.1 hy with hy | hy
  · exact h y hy
  · obtain rfl := List.mem_singleton.1 hy
    exact hx
end Go.Proofs.YtajlibegalbbmaaDoor
