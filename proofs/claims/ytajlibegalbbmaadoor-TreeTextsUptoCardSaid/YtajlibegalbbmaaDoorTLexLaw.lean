/- A tree's text is read as the tree, but for places: in plain words. -/
import Derived.Test.YtajlibegalbbmaaDoorTTextLaw
namespace Go.Proofs.YtajlibegalbbmaaDoor
open Go.RowKit

mutual
/-- A tree whose lists have the token that opens them, and whose tokens have no kids. -/
def cleanT : Tr → Tr
  | .mk l tk kids => if l then .mk true (1, [40], 0) (cleanL kids) else .mk false tk []
def cleanL : List Tr → List Tr
  | [] => []
  | t :: r => cleanT t :: cleanL r
end
theorem clean_list (tk : Tk) (kids : List Tr) : cleanT (.mk true tk kids) = .mk true (1, [40], 0) (cleanL kids) := by simp [cleanT]
theorem clean_atom (tk : Tk) (kids : List Tr) : cleanT (.mk false tk kids) = .mk false tk [] := by simp [cleanT]
mutual
/-- Tokens are a tree's, but for places. -/
def shapeT : Tr → List (Nat × List UInt8 × Nat) → Prop
  | .mk l tk kids, s => if l then ∃ p q u, s = (1, [40], p) :: (u ++ [(2, [41], q)]) ∧ shapeL kids u else ∃ k p, s = [(k, tk.2.1, p)] ∧ (k : Int) = tk.1 ∧ k ≠ 1 ∧ k ≠ 2
def shapeL : List Tr → List (Nat × List UInt8 × Nat) → Prop
  | [], s => s = []
  | t :: r, s => ∃ a b, s = a ++ b ∧ shapeT t a ∧ shapeL r b
end
theorem shape_list {tk : Tk} {kids : List Tr} {s : List (Nat × List UInt8 × Nat)} : shapeT (.mk true tk kids) s = ∃ p q u, s = (1, [40], p) :: (u ++ [(2, [41], q)]) ∧ shapeL kids u := by simp [shapeT]
theorem shape_atom {tk : Tk} {kids : List Tr} {s : List (Nat × List UInt8 × Nat)} : shapeT (.mk false tk kids) s = ∃ k p, s = [(k, tk.2.1, p)] ∧ (k : Int) = tk.1 ∧ k ≠ 1 ∧ k ≠ 2 := by simp [shapeT]

/-- A text ends, or a blank or ')' follows. -/
def EndsOk (r : List UInt8) : Prop := r = [] ∨ ∃ c r', r = c :: r' ∧ stopB c = true
theorem lexFrom_tok {bs : List UInt8} {p k n : Nat} {t r : List UInt8} {l : List (Nat × List UInt8 × Nat)} (hp : p < bs.length) (ht : tokT (bs.drop p) = .ok (k, t, n)) (hr : bs.drop (p + n) = r) (h1 : 1 ≤ n)
    (hl : ∀ f, bs.length < f + (p + n + skipS false r) → lexFrom bs f (p + n + skipS false r) = .ok l) : ∀ f, bs.length < f + p → lexFrom bs f p = .ok ((k, t, p) :: l) := by
  intro f hf
  obtain ⟨g, rfl⟩ : ∃ g, f = g + 1 := ⟨f - 1, by omega⟩
  rw [lexFrom, if_pos hp, ht]
  simp only
  rw [hr, hl g (by omega)]
theorem wordK_tok {tk : Tk} {s : List UInt8} (h : wordK tk = some s) : ∃ k : Nat, (k : Int) = tk.1 ∧ k ≠ 1 ∧ k ≠ 2 ∧ tokT s = .ok (k, tk.2.1, s.length) := by
  unfold wordK at h
  split at h
  · cases h
  · rename_i hn
    obtain ⟨k, e, ht⟩ := word_tok h
    exact ⟨k, e, by omega, by omega, ht⟩
theorem texts_false {ks : List Tr} {u : List UInt8} (h : textsT false ks = some u) : u = [] ∨ ∃ v, u = 32 :: v := by
  cases ks with
  | nil => simp only [textsT] at h; injection h with h; exact .inl h.symm
  | cons t r =>
    simp only [textsT] at h
    cases ht : textT t with
    | none => rw [ht] at h; cases h
    | some a =>
      cases hr : textsT false r with
      | none => rw [ht, hr] at h; cases h
      | some b =>
        rw [ht, hr] at h
        injection h with h
        exact .inr ⟨a ++ b, by rw [← h]; simp⟩
/-- What a tree's text asks of what follows. -/
def GoodX (t : Tr) (s : List UInt8) : Prop := ∀ (r : List UInt8), EndsOk r → skipS false (s ++ r) = 0 ∧ ∀ (bs : List UInt8) (p : Nat) (l : List (Nat × List UInt8 × Nat)), bs.drop p = s ++ r → p + s.length ≤ bs.length →
  (∀ f, bs.length < f + (p + s.length + skipS false r) → lexFrom bs f (p + s.length + skipS false r) = .ok l) → ∃ toks, shapeT t toks ∧ ∀ f, bs.length < f + p → lexFrom bs f p = .ok (toks ++ l)
theorem good_kids {kids : List Tr} (ih : ∀ k ∈ kids, ∀ s, textT k = some s → GoodX k s) : ∀ (ks : List Tr), (∀ k ∈ ks, k ∈ kids) → ∀ (first : Bool) (u : List UInt8), textsT first ks = some u → ∀ (bs r : List UInt8) (q : Nat) (l : List (Nat × List UInt8 × Nat)),
    bs.drop q = u ++ 41 :: r → q + u.length < bs.length → (∀ f, bs.length < f + (q + u.length) → lexFrom bs f (q + u.length) = .ok l) → ∃ toks, shapeL ks toks ∧ ∀ f, bs.length < f + (q + skipS false (u ++ 41 :: r)) → lexFrom bs f (q + skipS false (u ++ 41 :: r)) = .ok (toks ++ l)
  | [], _, first, u, hu, bs, r, q, l, hd, hq, hl => by
    simp only [textsT] at hu
    injection hu with hu
    subst hu
    refine ⟨[], by simp [shapeL], fun f hf => ?_⟩
    have e : skipS false (([] : List UInt8) ++ 41 :: r) = 0 := rfl
    rw [e] at hf ⊢
    exact hl f (by simpa using hf)
  | k :: ks, hk, first, u, hu, bs, r, q, l, hd, hq, hl => by
    simp only [textsT] at hu
    cases ht : textT k with
    | none => rw [ht] at hu; cases hu
    | some a =>
      cases hr : textsT false ks with
      | none => rw [ht, hr] at hu; cases hu
      | some b =>
        rw [ht, hr] at hu
        injection hu with hu
        have hend : EndsOk (b ++ 41 :: r) := by
          rcases texts_false hr with rfl | ⟨v, rfl⟩
          · exact .inr ⟨41, r, rfl, rfl⟩
          · exact .inr ⟨32, v ++ 41 :: r, rfl, rfl⟩
        obtain ⟨hs0, hgo⟩ := ih k (hk k (by simp)) a ht (b ++ 41 :: r) hend
        have main : ∀ p, bs.drop p = a ++ (b ++ 41 :: r) → p + a.length + b.length < bs.length → (∀ f, bs.length < f + (p + a.length + b.length) → lexFrom bs f (p + a.length + b.length) = .ok l) → ∃ toks, shapeL (k :: ks) toks ∧ ∀ f, bs.length < f + p → lexFrom bs f p = .ok (toks ++ l) := by
          intro p hdp hpl hlp
          have hdq : bs.drop (p + a.length) = b ++ 41 :: r := by rw [← List.drop_drop, hdp, List.drop_left]
          obtain ⟨t2, hs2, hf2⟩ := good_kids ih ks (fun x hx => hk x (by simp [hx])) false b hr bs r (p + a.length) l hdq hpl hlp
          obtain ⟨t1, hs1, hf1⟩ := hgo bs p (t2 ++ l) hdp (by omega) hf2
          refine ⟨t1 ++ t2, ?_, fun f hf => ?_⟩
          · simp only [shapeL]; exact ⟨t1, t2, rfl, hs1, hs2⟩
          · rw [List.append_assoc]; exact hf1 f hf
        cases first with
        | true =>
          simp only [if_true, List.nil_append] at hu
          subst hu
          rw [List.append_assoc] at hd ⊢
          rw [hs0, Nat.add_zero]
          rw [List.length_append] at hq hl
          exact main q hd (by omega) (by rw [Nat.add_assoc]; exact hl)
        | false =>
          simp only [Bool.false_eq_true, if_false, List.cons_append, List.nil_append] at hu
          subst hu
          have e : skipS false (32 :: (a ++ b) ++ 41 :: r) = 1 := by
            rw [List.cons_append, skipS, if_pos (show blankB 32 = true from rfl), List.append_assoc, hs0]
          rw [e]
          have hd1 : bs.drop (q + 1) = a ++ (b ++ 41 :: r) := by
            rw [← List.drop_drop, hd]
            simp
          simp only [List.length_cons, List.length_append] at hq hl
          exact main (q + 1) hd1 (by omega) (by rw [show q + 1 + a.length + b.length = q + (a.length + b.length + 1) by omega]; exact hl)
theorem good_text : ∀ (t : Tr) (s : List UInt8), textT t = some s → GoodX t s := by
  refine Tr.ind fun l tk kids ih => ?_
  intro s h
  cases l with
  | false =>
    replace h : wordK tk = some s := by simpa [textT] using h
    obtain ⟨k, e, h1, h2, ht⟩ := wordK_tok h
    intro r hr
    have htr : tokT (s ++ r) = .ok (k, tk.2.1, s.length) := by
      rcases hr with rfl | ⟨c, r', rfl, hc⟩
      · simpa using ht
      · exact tok_before ht hc r'
    refine ⟨tok_skip htr, fun bs p l hd hp hl => ?_⟩
    have hn := tok_pos ht
    have hdr : bs.drop (p + s.length) = r := by rw [← List.drop_drop, hd, List.drop_left]
    exact ⟨[(k, tk.2.1, p)], by rw [shape_atom]; exact ⟨k, p, rfl, e, h1, h2⟩, fun f hf => lexFrom_tok (by omega) (by rw [hd]; exact htr) hdr (by omega) hl f hf⟩
  | true =>
    rw [text_list] at h
    cases hk : textsT true kids with
    | none => rw [hk] at h; cases h
    | some u =>
      rw [hk] at h
      simp only [wrapT] at h
      injection h with h
      subst h
      intro r hr
      refine ⟨rfl, fun bs p l hd hp hl => ?_⟩
      simp only [List.length_cons, List.length_append, List.length_nil, Nat.zero_add] at hp hl
      have hd' : bs.drop p = 40 :: (u ++ 41 :: r) := by rw [hd]; simp
      have hd1 : bs.drop (p + 1) = u ++ 41 :: r := by rw [← List.drop_drop, hd']; rfl
      have hd2 : bs.drop (p + 1 + u.length) = 41 :: r := by rw [← List.drop_drop, hd1, List.drop_left]
      have hd3 : bs.drop (p + 1 + u.length + 1) = r := by rw [← List.drop_drop, hd2]; rfl
      have hclose := lexFrom_tok (l := l) (by omega) (show tokT (bs.drop (p + 1 + u.length)) = .ok (2, [41], 1) by rw [hd2]; rfl) hd3 (Nat.le_refl 1) (by
        rw [show p + 1 + u.length + 1 + skipS false r = p + (u.length + 1 + 1) + skipS false r by omega]; exact hl)
      obtain ⟨toks, hs, hf⟩ := good_kids ih kids (fun _ h => h) true u hk bs r (p + 1) _ hd1 (by omega) hclose
      refine ⟨(1, [40], p) :: (toks ++ [(2, [41], p + 1 + u.length)]), by rw [shape_list]; exact ⟨_, _, _, rfl, hs⟩, fun f hf' => ?_⟩
      have := lexFrom_tok (l := toks ++ (2, [41], p + 1 + u.length) :: l) (by omega) (show tokT (bs.drop p) = .ok (1, [40], 1) by rw [hd']; rfl) hd1 (Nat.le_refl 1) hf f hf'
      rw [this]
      simp
/-- The tokens of a tree's text. -/
theorem text_lex {t : Tr} {s : List UInt8} (h : textT t = some s) : ∃ toks, shapeT t toks ∧ lex s = .ok toks := by
  obtain ⟨h0, hg⟩ := good_text t s h [] (.inl rfl)
  rw [List.append_nil] at h0
  obtain ⟨toks, hs, hf⟩ := hg s 0 [] (by simp) (by omega) (fun f hf => lexFrom_end (by omega))
  refine ⟨toks, hs, ?_⟩
  unfold lex
  rw [h0]
  have := hf (s.length + 1) (by omega)
  simpa using this

/-- Tokens as the readers of trees take them. -/
def tokI (l : List (Nat × List UInt8 × Nat)) : List Tk := l.map fun x => ((x.1 : Int), x.2.1, (x.2.2 : Int))
theorem tokI_app (a b : List (Nat × List UInt8 × Nat)) : tokI (a ++ b) = tokI a ++ tokI b := by simp [tokI]
theorem read_kids {deep : Int} {kids : List Tr} (ih : ∀ k ∈ kids, ∀ toks, shapeT k toks → ∀ (b : List Fr) (f : Fr) (rest : List Tk), (b.length : Int) + (k.size : Int) ≤ deep → ∃ t', sameT false t' (cleanT k) = true ∧ runT deep b f (tokI toks ++ rest) = runT deep b (f.add t') rest) :
    ∀ (ks : List Tr), (∀ k ∈ ks, k ∈ kids) → ∀ toks, shapeL ks toks → ∀ (b : List Fr) (f : Fr) (rest : List Tk), (b.length : Int) + (sizes ks : Int) ≤ deep → ∃ ts, sameL false ts (cleanL ks) = true ∧ runT deep b f (tokI toks ++ rest) = runT deep b ⟨f.l, f.tk, f.kids ++ ts⟩ rest
  | [], _, toks, h, b, f, rest, _ => by
    simp only [shapeL] at h
    subst h
    exact ⟨[], rfl, by simp [tokI]⟩
  | k :: ks, hk, toks, h, b, f, rest, hd => by
    simp only [shapeL] at h
    obtain ⟨a, c, rfl, h1, h2⟩ := h
    simp only [sizes] at hd
    obtain ⟨t', e1, e2⟩ := ih k (hk k (by simp)) a h1 b f (tokI c ++ rest) (by omega)
    obtain ⟨ts, e3, e4⟩ := read_kids ih ks (fun x hx => hk x (by simp [hx])) c h2 b (f.add t') rest (by omega)
    refine ⟨t' :: ts, by simp only [cleanL, sameL, e1, e3, Bool.and_self], ?_⟩
    rw [tokI_app, List.append_assoc, e2, e4]
    simp [Fr.add]
theorem read_shape {deep : Int} : ∀ (t : Tr) (toks : List (Nat × List UInt8 × Nat)), shapeT t toks → ∀ (b : List Fr) (f : Fr) (rest : List Tk), (b.length : Int) + (t.size : Int) ≤ deep → ∃ t', sameT false t' (cleanT t) = true ∧ runT deep b f (tokI toks ++ rest) = runT deep b (f.add t') rest := by
  refine Tr.ind fun l tk kids ih => ?_
  intro toks h b f rest hd
  cases l with
  | false =>
    rw [shape_atom] at h
    obtain ⟨k, p, rfl, e, h1, h2⟩ := h
    refine ⟨.mk false ((k : Int), tk.2.1, (p : Int)) [], ?_, ?_⟩
    · rw [clean_atom]; simp [sameT, sameL, e]
    · simp only [tokI, List.map_cons, List.map_nil, List.cons_append, List.nil_append]
      exact run_leaf (by simp only; omega) (by simp only; omega)
  | true =>
    rw [shape_list] at h
    obtain ⟨p, q, u, rfl, hs⟩ := h
    have hsz : (Tr.mk true tk kids).size = 2 + sizes kids := by simp [Tr.size]
    rw [hsz] at hd
    obtain ⟨ts, e1, e2⟩ := read_kids ih kids (fun _ h => h) u hs (b ++ [f]) ⟨true, (1, [40], (p : Int)), []⟩ ((2, [41], (q : Int)) :: rest) (by simp; omega)
    refine ⟨.mk true (1, [40], (p : Int)) ts, by rw [clean_list]; simp [sameT, e1], ?_⟩
    have e : tokI ((1, [40], p) :: (u ++ [(2, [41], q)])) ++ rest = (1, [40], (p : Int)) :: (tokI u ++ (2, [41], (q : Int)) :: rest) := by simp [tokI]
    rw [e, run_open rfl (by omega), e2, run_close rfl]
    simp [Fr.add, Fr.tree]
theorem shape_len : ∀ (t : Tr) (toks : List (Nat × List UInt8 × Nat)), shapeT t toks → toks.length = t.size := by
  refine Tr.ind fun l tk kids ih => ?_
  intro toks h
  have key : ∀ (ks : List Tr), (∀ k ∈ ks, k ∈ kids) → ∀ u, shapeL ks u → u.length = sizes ks := by
    intro ks
    induction ks with
    | nil => intro _ u hu; simp only [shapeL] at hu; subst hu; rfl
    | cons k ks ik =>
      intro hk u hu
      simp only [shapeL] at hu
      obtain ⟨a, c, rfl, h1, h2⟩ := hu
      rw [List.length_append, ih k (hk k (by simp)) a h1, ik (fun x hx => hk x (by simp [hx])) c h2]
      rfl
  cases l with
  | false =>
    rw [shape_atom] at h
    obtain ⟨k, p, rfl, -⟩ := h
    simp [Tr.size]
  | true =>
    rw [shape_list] at h
    obtain ⟨p, q, u, rfl, hs⟩ := h
    have hsz : (Tr.mk true tk kids).size = 2 + sizes kids := by simp [Tr.size]
    rw [hsz]
    simp only [List.length_cons, List.length_append, List.length_nil, key kids (fun _ h => h) u hs]
    omega
theorem clean_size : ∀ t : Tr, (cleanT t).size = t.size := by
  refine Tr.ind fun l tk kids ih => ?_
  have key : ∀ (ks : List Tr), (∀ k ∈ ks, k ∈ kids) → sizes (cleanL ks) = sizes ks := by
    intro ks
    induction ks with
    | nil => intro _; rfl
    | cons k ks ik =>
      intro hk
      simp only [cleanL, sizes]
      rw [ih k (hk k (by simp)), ik (fun x hx => hk x (by simp [hx]))]
  cases l with
  | false => rw [clean_atom]; simp [Tr.size]
  | true => rw [clean_list]; simp only [Tr.size, if_true, key kids (fun _ h => h)]
/-- A tree's text, read. -/
theorem text_read {t : Tr} {s : List UInt8} {deep : Int} (h : textT t = some s) (hd : (t.size : Int) ≤ deep) : ∃ toks ts, lex s = .ok toks ∧ treesT deep (tokI toks) = .ok ts ∧ toks.length = (cleanT t).size ∧ sameL false ts [cleanT t] = true := by
  obtain ⟨toks, hs, hl⟩ := text_lex h
  obtain ⟨t', h1, h2⟩ := read_shape (deep := max deep 0) t toks hs [] ⟨false, (0, [], 0), []⟩ [] (by simp; omega)
  rw [List.append_nil] at h2
  refine ⟨toks, [t'], hl, ?_, by rw [shape_len t toks hs, clean_size], by simp [sameL, h1]⟩
  unfold treesT
  rw [h2, run_end]
  simp [Fr.add]
end Go.Proofs.YtajlibegalbbmaaDoor
