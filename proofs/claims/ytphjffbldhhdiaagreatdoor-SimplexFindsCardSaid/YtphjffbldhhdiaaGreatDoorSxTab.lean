/- A table of rows and its turning: plain. -/
import Derived.Test.YtphjffbldhhdiaaGreatDoorProg
import Derived.Test.YtphjffbldhhdiaaGreatDoorSxSum
namespace Go.Proofs.YtphjffbldhhdiaaGreatDoor

/-- What a table is: which one each line tells, which one stands in each column, the times, the values. -/
structure Sim where
  told : Nat → Nat
  col : Nat → Nat
  T : Nat → Nat → Rat
  val : Nat → Rat

/-- n unknowns, m rows, of these times. -/
structure Sys where
  n : Nat
  m : Nat
  A : Nat → Nat → Rat
  most : Nat → Rat

/-- Each row is what its times come to. -/
def Sys.Rel (S : Sys) (z : Nat → Rat) : Prop := ∀ i, i < S.m → z (S.n + i) = sumR S.n fun c => S.A i c * z c
/-- Values of the unknowns, and what the rows come to. -/
def Sys.ext (S : Sys) (x : Nat → Rat) : Nat → Rat := fun v => if v < S.n then x v else sumR S.n fun c => S.A (v - S.n) c * x c
theorem Sys.ext_lo (S : Sys) (x : Nat → Rat) {v : Nat} (h : v < S.n) : S.ext x v = x v := if_pos h
theorem Sys.ext_rel (S : Sys) (x : Nat → Rat) : S.Rel (S.ext x) := by
  intro i _
  have h1 : S.ext x (S.n + i) = sumR S.n fun c => S.A i c * x c := by
    rw [Sys.ext, if_neg (by omega), show S.n + i - S.n = i from by omega]
  rw [h1]
  exact sumR_congr fun c hc => by rw [S.ext_lo x hc]

/-- Where each one stands. -/
structure Places (S : Sys) (told col : Nat → Nat) : Prop where
  toldLt : ∀ l, l < S.m → told l < S.n + S.m
  colLt : ∀ c, c < S.n → col c < S.n + S.m
  toldInj : ∀ l l', l < S.m → l' < S.m → told l = told l' → l = l'
  colInj : ∀ c c', c < S.n → c' < S.n → col c = col c' → c = c'
  apart : ∀ l c, l < S.m → c < S.n → told l ≠ col c
  all : ∀ v, v < S.n + S.m → (∃ l, l < S.m ∧ told l = v) ∨ (∃ c, c < S.n ∧ col c = v)

/-- The lines tell just what the rows say. -/
def Tells (S : Sys) (told col : Nat → Nat) (T : Nat → Nat → Rat) : Prop :=
  ∀ z : Nat → Rat, S.Rel z ↔ ∀ l, l < S.m → z (told l) = sumR S.n fun c => T l c * z (col c)

def put {A : Type} (f : Nat → A) (k : Nat) (a : A) : Nat → A := fun i => if i = k then a else f i
theorem put_at {A : Type} (f : Nat → A) (k : Nat) (a : A) : put f k a k = a := if_pos rfl
theorem put_else {A : Type} (f : Nat → A) {k i : Nat} (a : A) (h : i ≠ k) : put f k a i = f i := if_neg h

/-- The times after a turn. -/
def pivT (T : Nat → Nat → Rat) (l0 c0 : Nat) : Nat → Nat → Rat := fun l c =>
  if l = l0 then (if c = c0 then 1 / T l0 c0 else -(T l0 c / T l0 c0))
  else (if c = c0 then T l c0 * (1 / T l0 c0) else T l c + T l c0 * (-(T l0 c / T l0 c0)))

theorem Places.turn {S : Sys} {told col : Nat → Nat} (h : Places S told col) {l0 c0 : Nat} (hl : l0 < S.m) (hc : c0 < S.n) :
    Places S (put told l0 (col c0)) (put col c0 (told l0)) where
  toldLt := fun l hl' => by
    unfold put; split
    · exact h.colLt _ hc
    · exact h.toldLt _ hl'
  colLt := fun c hc' => by
    unfold put; split
    · exact h.toldLt _ hl
    · exact h.colLt _ hc'
  toldInj := fun l l' h1 h2 he => by
    unfold put at he
    split at he <;> split at he
    · omega
    · exact absurd he.symm (h.apart _ _ h2 hc)
    · exact absurd he (h.apart _ _ h1 hc)
    · exact h.toldInj _ _ h1 h2 he
  colInj := fun l l' h1 h2 he => by
    unfold put at he
    split at he <;> split at he
    · omega
    · exact absurd he (h.apart _ _ hl h2)
    · exact absurd he.symm (h.apart _ _ hl h1)
    · exact h.colInj _ _ h1 h2 he
  apart := fun l c h1 h2 he => by
    unfold put at he
    split at he <;> split at he
    · exact h.apart _ _ hl hc he.symm
    · rename_i a b; exact b (h.colInj _ _ h2 hc he.symm)
    · rename_i a b; exact a (h.toldInj _ _ h1 hl he)
    · exact h.apart _ _ h1 h2 he
  all := fun v hv => by
    rcases h.all v hv with ⟨l, h1, h2⟩ | ⟨c, h1, h2⟩
    · by_cases hh : l = l0
      · exact .inr ⟨c0, hc, by rw [put_at, ← hh, h2]⟩
      · exact .inl ⟨l, h1, by rw [put_else _ _ hh, h2]⟩
    · by_cases hh : c = c0
      · exact .inl ⟨l0, hl, by rw [put_at, ← hh, h2]⟩
      · exact .inr ⟨c, h1, by rw [put_else _ _ hh, h2]⟩

/-- A line solved for one that it tells by. -/
theorem turn_line {n : Nat} {a z : Nat → Rat} {y : Rat} {c0 : Nat} (hc : c0 < n) (ha : a c0 ≠ 0) :
    y = (sumR n fun c => a c * z c) ↔ z c0 = sumR n fun c => (if c = c0 then 1 / a c0 else -(a c / a c0)) * (if c = c0 then y else z c) := by
  have h1 : (sumR n fun c => (if c = c0 then 1 / a c0 else -(a c / a c0)) * (if c = c0 then y else z c))
      = (sumR n fun c => (-(1 / a c0)) * (a c * z c)) + (1 / a c0 * y - (-(1 / a c0)) * (a c0 * z c0)) := by
    have := sumR_put (f := fun c => (if c = c0 then 1 / a c0 else -(a c / a c0)) * (if c = c0 then y else z c)) (g := fun c => (-(1 / a c0)) * (a c * z c)) hc (fun i _ hne => by
      simp only [if_neg hne]
      grind)
    rw [this]
    simp only [if_pos]
  rw [h1, sumR_mul]
  generalize sumR n (fun c => a c * z c) = s
  constructor
  · intro h; subst h
    grind
  · intro h
    grind
/-- One line's own put into another one. -/
theorem turn_other {n : Nat} {a b z : Nat → Rat} {y : Rat} {c0 : Nat} (hc : c0 < n) (hz : z c0 = sumR n fun c => (if c = c0 then 1 / a c0 else -(a c / a c0)) * (if c = c0 then y else z c)) :
    (sumR n fun c => b c * z c) = sumR n fun c => (if c = c0 then b c0 * (1 / a c0) else b c + b c0 * (-(a c / a c0))) * (if c = c0 then y else z c) := by
  have h1 := sumR_put (f := fun c => (if c = c0 then b c0 * (1 / a c0) else b c + b c0 * (-(a c / a c0))) * (if c = c0 then y else z c))
    (g := fun c => b c * z c + b c0 * ((if c = c0 then 1 / a c0 else -(a c / a c0)) * (if c = c0 then y else z c))) hc (fun i _ hne => by
      simp only [if_neg hne]
      grind)
  rw [h1, sumR_add, sumR_mul, ← hz]
  simp only [if_pos]
  grind

theorem Tells.turn {S : Sys} {told col : Nat → Nat} {T : Nat → Nat → Rat} (h : Tells S told col T) {l0 c0 : Nat} (hl : l0 < S.m) (hc : c0 < S.n) (hb : T l0 c0 ≠ 0) :
    Tells S (put told l0 (col c0)) (put col c0 (told l0)) (pivT T l0 c0) := by
  intro z
  rw [h z]
  -- the new columns' values
  have hcol : ∀ c, c < S.n → z (put col c0 (told l0) c) = if c = c0 then z (told l0) else z (col c) := fun c _ => by
    unfold put; split <;> rfl
  have hL := turn_line (z := fun c => z (col c)) (a := T l0) (y := z (told l0)) hc hb
  have hline : (sumR S.n fun c => pivT T l0 c0 l0 c * z (put col c0 (told l0) c)) = sumR S.n fun c => (if c = c0 then 1 / T l0 c0 else -(T l0 c / T l0 c0)) * (if c = c0 then z (told l0) else z (col c)) :=
    sumR_congr fun c hc' => by rw [hcol c hc', pivT, if_pos rfl]
  have hother : ∀ l, l ≠ l0 → (sumR S.n fun c => pivT T l0 c0 l c * z (put col c0 (told l0) c)) = sumR S.n fun c => (if c = c0 then T l c0 * (1 / T l0 c0) else T l c + T l c0 * (-(T l0 c / T l0 c0))) * (if c = c0 then z (told l0) else z (col c)) := fun l hne =>
    sumR_congr fun c hc' => by rw [hcol c hc', pivT, if_neg hne]
  constructor
  · intro H l hl'
    have h0 := hL.mp (H l0 hl)
    by_cases hh : l = l0
    · rw [hh, put_at, hline]
      exact h0
    · rw [put_else _ _ hh, hother l hh, ← turn_other (b := T l) (a := T l0) hc h0]
      exact H l hl'
  · intro H l hl'
    have h0 := H l0 hl
    rw [put_at, hline] at h0
    by_cases hh : l = l0
    · rw [hh]
      exact hL.mpr h0
    · have h1 := H l hl'
      rw [put_else _ _ hh, hother l hh, ← turn_other (b := T l) (a := T l0) (z := fun c => z (col c)) hc h0] at h1
      exact h1

/-- A turn and the same again. -/
theorem pivT_pivT {T : Nat → Nat → Rat} {l0 c0 : Nat} (hb : T l0 c0 ≠ 0) : pivT (pivT T l0 c0) l0 c0 = T := by
  have h0 : pivT T l0 c0 l0 c0 = 1 / T l0 c0 := by simp [pivT]
  have h1 : ∀ c, c ≠ c0 → pivT T l0 c0 l0 c = -(T l0 c / T l0 c0) := fun c hc => by simp [pivT, hc]
  have h2 : ∀ l, l ≠ l0 → pivT T l0 c0 l c0 = T l c0 * (1 / T l0 c0) := fun l hl => by simp [pivT, hl]
  have h3 : ∀ l c, l ≠ l0 → c ≠ c0 → pivT T l0 c0 l c = T l c + T l c0 * (-(T l0 c / T l0 c0)) := fun l c hl hc => by simp [pivT, hl, hc]
  funext l c
  rw [show pivT (pivT T l0 c0) l0 c0 l c = _ from rfl, pivT]
  by_cases hl : l = l0
  · rw [if_pos hl]
    by_cases hc : c = c0
    · rw [if_pos hc, h0, hl, hc]
      grind
    · rw [if_neg hc, h0, h1 c hc, hl]
      grind
  · rw [if_neg hl]
    by_cases hc : c = c0
    · rw [if_pos hc, h0, h2 l hl, hc]
      grind
    · rw [if_neg hc, h0, h2 l hl, h1 c hc, h3 l c hl hc]
      grind
end Go.Proofs.YtphjffbldhhdiaaGreatDoor
