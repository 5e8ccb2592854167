/- A tree's text, in plain words. -/
import Derived.Test.YtajlibegalbbmaaDoorTSize
import Derived.Test.YtajlibegalbbmaaDoorJoins
namespace Go.Proofs.YtajlibegalbbmaaDoor
open Go.RowKit

/-- A token's word, as a tree. -/
def wordK (tk : Tk) : Option (List UInt8) := if tk.1 = 1 ∨ tk.1 = 2 then none else wordT tk.1 tk.2.1
mutual
/-- A tree's text. -/
def textT : Tr → Option (List UInt8)
  | .mk l tk kids => if l then (match textsT true kids with | some s => some (40 :: (s ++ [41])) | none => none) else wordK tk
/-- The texts of trees, with a blank ahead of each but, perhaps, the first. -/
def textsT : Bool → List Tr → Option (List UInt8)
  | _, [] => some []
  | first, t :: r => match textT t, textsT false r with
    | some a, some b => some ((if first then [] else [32]) ++ a ++ b)
    | _, _ => none
end
theorem text_eq (t : Tr) : textT t = if t.l = true then (match textsT true t.kids with | some s => some (40 :: (s ++ [41])) | none => none) else wordK t.tk := by cases t; rfl
/-- A list's text out of its kids'. -/
def wrapT (o : Option (List UInt8)) : Option (List UInt8) := match o with | some s => some (40 :: (s ++ [41])) | none => none
theorem text_list (tk : Tk) (kids : List Tr) : textT (.mk true tk kids) = wrapT (textsT true kids) := by simp only [textT, if_true, wrapT]
theorem texts_snoc (first : Bool) : ∀ (l : List Tr) (t : Tr), textsT first (l ++ [t]) = match textsT first l, textT t with | some a, some b => some (a ++ ((if (first && l.isEmpty) = true then [] else [32]) ++ b)) | _, _ => none
  | [], t => by
    simp only [List.nil_append, textsT, List.isEmpty_nil, Bool.and_true]
    cases textT t <;> simp
  | x :: l, t => by
    simp only [List.cons_append, textsT, texts_snoc false l t, List.isEmpty_cons, Bool.and_false, Bool.false_and]
    cases textT x with
    | none => rfl
    | some a => cases textsT false l with
      | none => rfl
      | some b => cases textT t with
        | none => rfl
        | some c => simp
theorem texts_none {t : Tr} (h : textT t = none) : ∀ (l : List Tr) (first : Bool), t ∈ l → textsT first l = none
  | [], _, hm => by cases hm
  | x :: l, first, hm => by
    simp only [textsT]
    rcases List.mem_cons.1 hm with rfl | hm
    · rw [h]
    · rw [texts_none h l false hm]
      cases textT x <;> rfl
theorem texts_step {kids : List Tr} {i : Nat} (hi : i < kids.length) {o s : List UInt8} (h1 : textsT true (kids.take i) = some o) (h2 : textT kids[i] = some s) : textsT true (kids.take (i + 1)) = some (o ++ ((if i = 0 then [] else [32]) ++ s)) := by
  rw [List.take_succ_eq_append_getElem hi, texts_snoc, h1, h2]
  simp only [Bool.true_and]
  have e : ((kids.take i).isEmpty = true) ↔ i = 0 := by
    rw [List.isEmpty_iff, List.take_eq_nil_iff]
    refine ⟨fun h => ?_, fun h => .inl h⟩
    rcases h with h | h
    · exact h
    · rw [h] at hi; simp at hi
  simp only [e]
/-- What is still to be told: the innermost list first. -/
def restS : Bool → List (List Tr) → Option (List UInt8)
  | _, [] => some []
  | first, K :: S => match textsT first K, restS false S with
    | some a, some b => some (a ++ 41 :: b)
    | _, _ => none
/-- Is a text that which is told so far, and the rest? -/
def toldT (full : Option (List UInt8)) (out : List UInt8) (rest : Option (List UInt8)) : Prop := full = match rest with | some r => some (out ++ r) | none => none
theorem told_pop {full : Option (List UInt8)} {out : List UInt8} {first : Bool} {S : List (List Tr)} (h : toldT full out (restS first ([] :: S))) : toldT full (out ++ [41]) (restS false S) := by
  unfold toldT at *
  rw [h]
  simp only [restS, textsT]
  cases restS false S <;> simp
theorem told_push {full : Option (List UInt8)} {out : List UInt8} {first : Bool} {k : Tr} {r : List Tr} {S : List (List Tr)} (hk : k.l = true) (h : toldT full out (restS first ((k :: r) :: S))) : toldT full ((out ++ (if first then [] else [32])) ++ [40]) (restS true (k.kids :: r :: S)) := by
  unfold toldT at *
  rw [h]
  simp only [restS, textsT, text_eq, if_pos hk]
  cases textsT true k.kids with
  | none => rfl
  | some a => cases textsT false r with
    | none => rfl
    | some b => cases restS false S <;> simp
theorem told_atom {full : Option (List UInt8)} {out s : List UInt8} {first : Bool} {k : Tr} {r : List Tr} {S : List (List Tr)} (hk : k.l = false) (hw : wordK k.tk = some s) (h : toldT full out (restS first ((k :: r) :: S))) : toldT full ((out ++ (if first then [] else [32])) ++ s) (restS false (r :: S)) := by
  unfold toldT at *
  rw [h]
  simp only [restS, textsT, text_eq, hk, hw]
  cases textsT false r with
  | none => simp
  | some b => cases restS false S <;> simp
theorem told_bad {full : Option (List UInt8)} {out : List UInt8} {first : Bool} {k : Tr} {r : List Tr} {S : List (List Tr)} (hk : k.l = false) (hw : wordK k.tk = none) (h : toldT full out (restS first ((k :: r) :: S))) : full = none := by
  unfold toldT at h
  rw [h]
  simp [restS, textsT, text_eq, hk, hw]
theorem told_end {full : Option (List UInt8)} {out : List UInt8} {first : Bool} (h : toldT full out (restS first [])) : full = some out := by
  unfold toldT at h
  rw [h]
  simp [restS]
/-- How much is still to be done. -/
def wgt : List (List Tr) → Nat
  | [] => 0
  | K :: S => 1 + sizes K + wgt S

mutual
/-- What holds of all tokens. -/
def allT (p : Tk → Prop) : Tr → Prop
  | .mk _ tk kids => p tk ∧ allL p kids
def allL (p : Tk → Prop) : List Tr → Prop
  | [] => True
  | t :: r => allT p t ∧ allL p r
end
theorem allT_kids {p : Tk → Prop} {t : Tr} (h : allT p t) : p t.tk ∧ allL p t.kids := by obtain ⟨l, tk, kids⟩ := t; simp only [allT] at h; exact h
theorem allL_at {p : Tk → Prop} : ∀ {l : List Tr}, allL p l → ∀ t ∈ l, allT p t
  | [], _, t, h => by cases h
  | x :: l, h, t, ht => by
    simp only [allL] at h
    rcases List.mem_cons.1 ht with rfl | ht
    · exact h.1
    · exact allL_at h.2 t ht
/-- Texts of at most so many bytes. -/
abbrev SmallT (n : Nat) : Tr → Prop := allT fun tk => tk.2.1.length ≤ n
abbrev SmallL (n : Nat) : List Tr → Prop := allL fun tk => tk.2.1.length ≤ n
theorem wordK_len {tk : Tk} {s : List UInt8} (h : wordK tk = some s) : s.length ≤ 2 * tk.2.1.length + 2 := by
  unfold wordK at h
  split at h
  · cases h
  · have := word_len h; omega
theorem text_len {n M : Nat} (hM : 2 * n + 4 ≤ M) : ∀ t : Tr, SmallT n t → ∀ s, textT t = some s → s.length + 1 ≤ M * t.size := by
  refine Tr.ind fun l tk kids ih => ?_
  intro hs s h
  obtain ⟨h1, h2⟩ := allT_kids hs
  simp only [Tr.tk, Tr.kids] at h1 h2
  have key : ∀ (ks : List Tr), (∀ k ∈ ks, k ∈ kids) → ∀ (f : Bool) (u : List UInt8), textsT f ks = some u → u.length ≤ M * sizes ks := by
    intro ks
    induction ks with
    | nil => intro _ f u hu; simp only [textsT] at hu; injection hu with hu; subst hu; simp [sizes]
    | cons k ks ik =>
      intro hks f u hu
      simp only [textsT] at hu
      cases hk : textT k with
      | none => rw [hk] at hu; cases hu
      | some a =>
        cases hr : textsT false ks with
        | none => rw [hk, hr] at hu; cases hu
        | some b =>
          rw [hk, hr] at hu
          injection hu with hu
          have e1 := ih k (hks k (by simp)) (allL_at h2 k (hks k (by simp))) a hk
          have e2 := ik (fun x hx => hks x (by simp [hx])) false b hr
          rw [← hu]
          simp only [sizes, Nat.mul_add, List.length_append]
          cases f <;> simp <;> omega
  cases l with
  | false =>
    replace h : wordK tk = some s := by simpa [textT] using h
    have := wordK_len h
    have e : (Tr.mk false tk kids).size = 1 := by simp [Tr.size]
    rw [e]
    omega
  | true =>
    simp only [textT, if_true] at h
    cases hk : textsT true kids with
    | none => rw [hk] at h; cases h
    | some u =>
      rw [hk] at h
      injection h with h
      have := key kids (fun _ h => h) true u hk
      have e : (Tr.mk true tk kids).size = 2 + sizes kids := by simp [Tr.size]
      rw [e, ← h, Nat.mul_add]
      simp
      omega
end Go.Proofs.YtajlibegalbbmaaDoor
