/- Sums of fractions; a number of steps too many: plain. -/
import Derived.Test.YtphjffbldhhdiaaProg
namespace Go.Proofs.Ytphjffbldhhdiaa

/-- f 0 + .. + f (n - 1). -/
def sumR : Nat → (Nat → Rat) → Rat
 | 0, _ => 0
 | n + 1, f => sumR n f + f n
theorem sumR_congr {f g : Nat → Rat} : ∀ {n : Nat}, (∀ i, i < n → f i = g i) → sumR n f = sumR n g
 | 0, _ => rfl
 | n + 1, h => by rw [sumR, sumR, sumR_congr (n := n) (fun i hi => h i (by omega)), h n (by omega)]
theorem sumR_add (f g : Nat → Rat) : ∀ n, sumR n (fun i => f i + g i) = sumR n f + sumR n g
 | 0 => by simp only [sumR]; grind
 | n + 1 => by simp only [sumR, sumR_add f g n]; grind
theorem sumR_mul (a : Rat) (f : Nat → Rat) : ∀ n, sumR n (fun i => a * f i) = a * sumR n f
 | 0 => by simp [sumR]
 | n + 1 => by simp only [sumR, sumR_mul a f n]; grind
theorem sumR_zero : ∀ n, sumR n (fun _ => 0) = 0
 | 0 => rfl
 | n + 1 => by rw [sumR, sumR_zero n]; grind
theorem sumR_sub (f g : Nat → Rat) (n : Nat) : sumR n (fun i => f i - g i) = sumR n f - sumR n g := by
 have h := sumR_add f (fun i => (-1) * g i) n
 rw [sumR_mul] at h
 rw [show (fun i => f i - g i) = (fun i => f i + (-1) * g i) from funext fun i => by grind, h]
 grind
/-- One term is another. -/
theorem sumR_put {f g : Nat → Rat} {c : Nat} : ∀ {n : Nat}, c < n → (∀ i, i < n → i ≠ c → f i = g i) → sumR n f = sumR n g + (f c - g c)
 | n + 1, hc, h => by
  rcases Nat.lt_or_ge c n with h1 | h1
  ·rw [sumR, sumR, sumR_put h1 (fun i hi => h i (by omega)), h n (by omega) (by omega)]
   grind
  ·obtain rfl : c = n := by omega
   rw [sumR, sumR, sumR_congr (n := c) (fun i hi => h i (by omega) (by omega))]
   grind
theorem sumR_nonneg {f : Nat → Rat} : ∀ {n : Nat}, (∀ i, i < n → 0 ≤ f i) → 0 ≤ sumR n f
 | 0, _ => by simp [sumR]
 | n + 1, h => by
  have h1 := sumR_nonneg (n := n) (fun i hi => h i (by omega))
  have h2 := h n (by omega)
  rw [sumR]
  grind
theorem sumR_le {f g : Nat → Rat} {n : Nat} (h : ∀ i, i < n → f i ≤ g i) : sumR n f ≤ sumR n g := by
 have := sumR_nonneg (f := fun i => g i - f i) (n := n) (fun i hi => by have := h i hi; grind)
 rw [sumR_sub] at this
 grind
/-- One term alone. -/
theorem sumR_one {f : Nat → Rat} {c n : Nat} (hc : c < n) (h : ∀ i, i < n → i ≠ c → f i = 0) : sumR n f = f c := by
 have := sumR_put (f := f) (g := fun _ => 0) hc (fun i hi hn => h i hi hn)
 rw [sumR_zero] at this
 rw [this]
 grind
theorem sumR_swap (f : Nat → Nat → Rat) (m : Nat) : ∀ n, sumR n (fun i => sumR m (fun j => f i j)) = sumR m (fun j => sumR n (fun i => f i j))
 | 0 => by simp only [sumR]; exact (sumR_zero m).symm
 | n + 1 => by
  rw [sumR, sumR_swap f m n, ← sumR_add]
  rfl

/-- More pigeons than holes. -/
theorem pigeon : ∀ (K : Nat) (f : Nat → Nat), (∀ i, i ≤ K → f i < K) → ∃ i j, i < j ∧ j ≤ K ∧ f i = f j
 | 0, f, h => absurd (h 0 (Nat.le_refl _)) (Nat.not_lt_zero _)
 | K + 1, f, h => by
  by_cases hx : ∃ i, i ≤ K ∧ f i = f (K + 1)
  ·obtain ⟨i, hi, he⟩ := hx
   exact ⟨i, K + 1, by omega, Nat.le_refl _, he⟩
  ·have hne : ∀ i, i ≤ K → f i ≠ f (K + 1) := fun i hi he => hx ⟨i, hi, he⟩
   obtain ⟨i, j, hij, hj, he⟩ := pigeon K (fun i => if f i = K then f (K + 1) else f i) (fun i hi => by
    have h1 := h i (by omega)
    have h2 := h (K + 1) (Nat.le_refl _)
    have h3 := hne i hi
    show (if f i = K then f (K + 1) else f i) < K
    split <;> omega)
   refine ⟨i, j, hij, by omega, ?_⟩
   have h1 := hne i (by omega)
   have h2 := hne j hj
   change (if f i = K then f (K + 1) else f i) = (if f j = K then f (K + 1) else f j) at he
   split at he <;> split at he <;> omega
/-- All rows of truths of one length. -/
def allB : Nat → List (List Bool)
 | 0 => [[]]
 | n + 1 => (allB n).map (true :: ·) ++ (allB n).map (false :: ·)
theorem mem_allB : ∀ (n : Nat) (l : List Bool), l.length = n → l ∈ allB n
 | 0, l, h => by rw [List.eq_nil_of_length_eq_zero h]; simp [allB]
 | n + 1, b :: l, h => by
  have := mem_allB n l (by simpa using h)
  cases b <;> simp [allB, this]
/-- A run that is long enough meets one row of truths twice. -/
theorem pigeonB {n : Nat} (f : Nat → List Bool) (hf : ∀ i, (f i).length = n) : ∃ i j, i < j ∧ j ≤ (allB n).length ∧ f i = f j := by
 obtain ⟨i, j, hij, hj, he⟩ := pigeon (allB n).length (fun i => (allB n).idxOf (f i)) (fun i _ => List.idxOf_lt_length_of_mem (mem_allB n _ (hf i)))
 refine ⟨i, j, hij, hj, ?_⟩
 have h1 := List.getElem_idxOf (List.idxOf_lt_length_of_mem (mem_allB n _ (hf i)))
 have h2 := List.getElem_idxOf (List.idxOf_lt_length_of_mem (mem_allB n _ (hf j)))
 rw [← h1, ← h2]
 simp only [he]
end Go.Proofs.Ytphjffbldhhdiaa
namespace Go.Proofs.Ytphjffbldhhdiaa

/-- What a table is: which one each line tells, which one stands in each column, the times, the values. -/
structure Sim where
 told : Nat → Nat
 col : Nat → Nat
 T : Nat → Nat → Rat
 val : Nat → Rat

/-- n unknowns, m rows, of these times. -/
structure Sys where
 n : Nat
 m : Nat
 A : Nat → Nat → Rat
 most : Nat → Rat

/-- Each row is what its times come to. -/
def Sys.Rel (S : Sys) (z : Nat → Rat) : Prop := ∀ i, i < S.m → z (S.n + i) = sumR S.n fun c => S.A i c * z c
/-- Values of the unknowns, and what the rows come to. -/
def Sys.ext (S : Sys) (x : Nat → Rat) : Nat → Rat := fun v => if v < S.n then x v else sumR S.n fun c => S.A (v - S.n) c * x c
theorem Sys.ext_lo (S : Sys) (x : Nat → Rat) {v : Nat} (h : v < S.n) : S.ext x v = x v := if_pos h
theorem Sys.ext_rel (S : Sys) (x : Nat → Rat) : S.Rel (S.ext x) := by
 intro i _
 have h1 : S.ext x (S.n + i) = sumR S.n fun c => S.A i c * x c := by
  rw [Sys.ext, if_neg (by omega), show S.n + i - S.n = i from by omega]
 rw [h1]
 exact sumR_congr fun c hc => by rw [S.ext_lo x hc]

/-- Where each one stands. -/
structure Places (S : Sys) (told col : Nat → Nat) : Prop where
 toldLt : ∀ l, l < S.m → told l < S.n + S.m
 colLt : ∀ c, c < S.n → col c < S.n + S.m
 toldInj : ∀ l l', l < S.m → l' < S.m → told l = told l' → l = l'
 colInj : ∀ c c', c < S.n → c' < S.n → col c = col c' → c = c'
 apart : ∀ l c, l < S.m → c < S.n → told l ≠ col c
 all : ∀ v, v < S.n + S.m → (∃ l, l < S.m ∧ told l = v) ∨ (∃ c, c < S.n ∧ col c = v)

/-- The lines tell just what the rows say. -/
def Tells (S : Sys) (told col : Nat → Nat) (T : Nat → Nat → Rat) : Prop :=
 ∀ z : Nat → Rat, S.Rel z ↔ ∀ l, l < S.m → z (told l) = sumR S.n fun c => T l c * z (col c)

def put {A : Type} (f : Nat → A) (k : Nat) (a : A) : Nat → A := fun i => if i = k then a else f i
theorem put_at {A : Type} (f : Nat → A) (k : Nat) (a : A) : put f k a k = a := if_pos rfl
theorem put_else {A : Type} (f : Nat → A) {k i : Nat} (a : A) (h : i ≠ k) : put f k a i = f i := if_neg h

/-- The times after a turn. -/
def pivT (T : Nat → Nat → Rat) (l0 c0 : Nat) : Nat → Nat → Rat := fun l c =>
 if l = l0 then (if c = c0 then 1 / T l0 c0 else -(T l0 c / T l0 c0))
 else (if c = c0 then T l c0 * (1 / T l0 c0) else T l c + T l c0 * (-(T l0 c / T l0 c0)))

theorem Places.turn {S : Sys} {told col : Nat → Nat} (h : Places S told col) {l0 c0 : Nat} (hl : l0 < S.m) (hc : c0 < S.n) :
  Places S (put told l0 (col c0)) (put col c0 (told l0)) where
 toldLt := fun l hl' => by
  unfold put; split
  ·exact h.colLt _ hc
  ·exact h.toldLt _ hl'
 colLt := fun c hc' => by
  unfold put; split
  ·exact h.toldLt _ hl
  ·exact h.colLt _ hc'
 toldInj := fun l l' h1 h2 he => by
  unfold put at he
  split at he <;> split at he
  ·omega
  ·exact absurd he.symm (h.apart _ _ h2 hc)
  ·exact absurd he (h.apart _ _ h1 hc)
  ·exact h.toldInj _ _ h1 h2 he
 colInj := fun l l' h1 h2 he => by
  unfold put at he
  split at he <;> split at he
  ·omega
  ·exact absurd he (h.apart _ _ hl h2)
  ·exact absurd he.symm (h.apart _ _ hl h1)
  ·exact h.colInj _ _ h1 h2 he
 apart := fun l c h1 h2 he => by
  unfold put at he
  split at he <;> split at he
  ·exact h.apart _ _ hl hc he.symm
  ·rename_i a b; exact b (h.colInj _ _ h2 hc he.symm)
  ·rename_i a b; exact a (h.toldInj _ _ h1 hl he)
  ·exact h.apart _ _ h1 h2 he
 all := fun v hv => by
  rcases h.all v hv with ⟨l, h1, h2⟩ | ⟨c, h1, h2⟩
  ·by_cases hh : l = l0
   ·exact .inr ⟨c0, hc, by rw [put_at, ← hh, h2]⟩
   ·exact .inl ⟨l, h1, by rw [put_else _ _ hh, h2]⟩
  ·by_cases hh : c = c0
   ·exact .inl ⟨l0, hl, by rw [put_at, ← hh, h2]⟩
   ·exact .inr ⟨c, h1, by rw [put_else _ _ hh, h2]⟩

/-- A line solved for one that it tells by. -/
theorem turn_line {n : Nat} {a z : Nat → Rat} {y : Rat} {c0 : Nat} (hc : c0 < n) (ha : a c0 ≠ 0) :
  y = (sumR n fun c => a c * z c) ↔ z c0 = sumR n fun c => (if c = c0 then 1 / a c0 else -(a c / a c0)) * (if c = c0 then y else z c) := by
 have h1 : (sumR n fun c => (if c = c0 then 1 / a c0 else -(a c / a c0)) * (if c = c0 then y else z c))
   = (sumR n fun c => (-(1 / a c0)) * (a c * z c)) + (1 / a c0 * y - (-(1 / a c0)) * (a c0 * z c0)) := by
  have := sumR_put (f := fun c => (if c = c0 then 1 / a c0 else -(a c / a c0)) * (if c = c0 then y else z c)) (g := fun c => (-(1 / a c0)) * (a c * z c)) hc (fun i _ hne => by
   simp only [if_neg hne]
   grind)
  rw [this]
  simp only [if_pos]
 rw [h1, sumR_mul]
 generalize sumR n (fun c => a c * z c) = s
 constructor
 ·intro h; subst h
  grind
 ·intro h
  grind
/-- One line's own put into another one. -/
theorem turn_other {n : Nat} {a b z : Nat → Rat} {y : Rat} {c0 : Nat} (hc : c0 < n) (hz : z c0 = sumR n fun c => (if c = c0 then 1 / a c0 else -(a c / a c0)) * (if c = c0 then y else z c)) :
  (sumR n fun c => b c * z c) = sumR n fun c => (if c = c0 then b c0 * (1 / a c0) else b c + b c0 * (-(a c / a c0))) * (if c = c0 then y else z c) := by
 have h1 := sumR_put (f := fun c => (if c = c0 then b c0 * (1 / a c0) else b c + b c0 * (-(a c / a c0))) * (if c = c0 then y else z c))
  (g := fun c => b c * z c + b c0 * ((if c = c0 then 1 / a c0 else -(a c / a c0)) * (if c = c0 then y else z c))) hc (fun i _ hne => by
   simp only [if_neg hne]
   grind)
 rw [h1, sumR_add, sumR_mul, ← hz]
 simp only [if_pos]
 grind

theorem Tells.turn {S : Sys} {told col : Nat → Nat} {T : Nat → Nat → Rat} (h : Tells S told col T) {l0 c0 : Nat} (hl : l0 < S.m) (hc : c0 < S.n) (hb : T l0 c0 ≠ 0) :
  Tells S (put told l0 (col c0)) (put col c0 (told l0)) (pivT T l0 c0) := by
 intro z
 rw [h z]
 -- the new columns' values
 have hcol : ∀ c, c < S.n → z (put col c0 (told l0) c) = if c = c0 then z (told l0) else z (col c) := fun c _ => by
  unfold put; split <;> rfl
 have hL := turn_line (z := fun c => z (col c)) (a := T l0) (y := z (told l0)) hc hb
 have hline : (sumR S.n fun c => pivT T l0 c0 l0 c * z (put col c0 (told l0) c)) = sumR S.n fun c => (if c = c0 then 1 / T l0 c0 else -(T l0 c / T l0 c0)) * (if c = c0 then z (told l0) else z (col c)) :=
  sumR_congr fun c hc' => by rw [hcol c hc', pivT, if_pos rfl]
 have hother : ∀ l, l ≠ l0 → (sumR S.n fun c => pivT T l0 c0 l c * z (put col c0 (told l0) c)) = sumR S.n fun c => (if c = c0 then T l c0 * (1 / T l0 c0) else T l c + T l c0 * (-(T l0 c / T l0 c0))) * (if c = c0 then z (told l0) else z (col c)) := fun l hne =>
  sumR_congr fun c hc' => by rw [hcol c hc', pivT, if_neg hne]
 constructor
 ·intro H l hl'
  have h0 := hL.mp (H l0 hl)
  by_cases hh : l = l0
  ·rw [hh, put_at, hline]
   exact h0
  ·rw [put_else _ _ hh, hother l hh, ← turn_other (b := T l) (a := T l0) hc h0]
   exact H l hl'
 ·intro H l hl'
  have h0 := H l0 hl
  rw [put_at, hline] at h0
  by_cases hh : l = l0
  ·rw [hh]
   exact hL.mpr h0
  ·have h1 := H l hl'
   rw [put_else _ _ hh, hother l hh, ← turn_other (b := T l) (a := T l0) (z := fun c => z (col c)) hc h0] at h1
   exact h1

/-- A turn and the same again. -/
theorem pivT_pivT {T : Nat → Nat → Rat} {l0 c0 : Nat} (hb : T l0 c0 ≠ 0) : pivT (pivT T l0 c0) l0 c0 = T := by
 have h0 : pivT T l0 c0 l0 c0 = 1 / T l0 c0 := by simp [pivT]
 have h1 : ∀ c, c ≠ c0 → pivT T l0 c0 l0 c = -(T l0 c / T l0 c0) := fun c hc => by simp [pivT, hc]
 have h2 : ∀ l, l ≠ l0 → pivT T l0 c0 l c0 = T l c0 * (1 / T l0 c0) := fun l hl => by simp [pivT, hl]
 have h3 : ∀ l c, l ≠ l0 → c ≠ c0 → pivT T l0 c0 l c = T l c + T l c0 * (-(T l0 c / T l0 c0)) := fun l c hl hc => by simp [pivT, hl, hc]
 funext l c
 rw [show pivT (pivT T l0 c0) l0 c0 l c = _ from rfl, pivT]
 by_cases hl : l = l0
 ·rw [if_pos hl]
  by_cases hc : c = c0
  ·rw [if_pos hc, h0, hl, hc]
   grind
  ·rw [if_neg hc, h0, h1 c hc, hl]
   grind
 ·rw [if_neg hl]
  by_cases hc : c = c0
  ·rw [if_pos hc, h0, h2 l hl, hc]
   grind
  ·rw [if_neg hc, h0, h2 l hl, h1 c hc, h3 l c hl hc]
   grind
end Go.Proofs.Ytphjffbldhhdiaa
namespace Go.Proofs.Ytphjffbldhhdiaa

/-- The line's row is greater than it may be. -/
def Sys.Over (S : Sys) (t : Sim) (l : Nat) : Prop := S.n ≤ t.told l ∧ S.most (t.told l - S.n) < t.val (t.told l)
/-- The line's one can become less by the column's. -/
def Sys.Free (S : Sys) (t : Sim) (l c : Nat) : Prop :=
 if 0 ≤ t.T l c ∨ t.col c < S.n then t.T l c ≠ 0 else t.val (t.col c) < S.most (t.col c - S.n)
/-- The first of a row, by what stands there. -/
def First (n : Nat) (p : Nat → Prop) (f : Nat → Nat) (k : Nat) : Prop := k < n ∧ p k ∧ ∀ i, i < n → p i → f k ≤ f i

/-- The values after the first k lines' steps. -/
def stepV (t : Sim) (c0 : Nat) (step : Rat) : Nat → (Nat → Rat)
 | 0 => t.val
 | k + 1 => put (stepV t c0 step k) (t.told k) (stepV t c0 step k (t.told k) + t.T k c0 * step)
def turnStep (S : Sys) (t : Sim) (l0 c0 : Nat) : Rat := (S.most (t.told l0 - S.n) - t.val (t.told l0)) / t.T l0 c0
def turnT (S : Sys) (t : Sim) (l0 c0 : Nat) : Sim where
 told := put t.told l0 (t.col c0)
 col := put t.col c0 (t.told l0)
 T := pivT t.T l0 c0
 val := put (stepV t c0 (turnStep S t l0 c0) S.m) (t.col c0) (stepV t c0 (turnStep S t l0 c0) S.m (t.col c0) + turnStep S t l0 c0)

structure Inv (S : Sys) (t : Sim) : Prop where
 at' : Places S t.told t.col
 tells : Tells S t.told t.col t.T
 rel : S.Rel t.val
 lo : ∀ c, c < S.n → t.col c < S.n → t.val (t.col c) = 0
 hi : ∀ c, c < S.n → S.n ≤ t.col c → t.val (t.col c) = S.most (t.col c - S.n)

theorem stepV_else (t : Sim) (c0 : Nat) (step : Rat) (v : Nat) : ∀ k, (∀ l, l < k → t.told l ≠ v) → stepV t c0 step k v = t.val v
 | 0, _ => rfl
 | k + 1, h => by rw [stepV, put_else _ _ (fun he => h k (by omega) he.symm), stepV_else t c0 step v k (fun l hl => h l (by omega))]
theorem stepV_told (t : Sim) (c0 : Nat) (step : Rat) {l : Nat} : ∀ k, l < k → (∀ l', l' < k → t.told l' = t.told l → l' = l) → stepV t c0 step k (t.told l) = t.val (t.told l) + t.T l c0 * step
 | k + 1, hl, h => by
  rw [stepV]
  by_cases hk : l = k
  ·subst hk
   rw [put_at, stepV_else t c0 step _ l (fun l' hl' he => by have := h l' (by omega) he; omega)]
  ·rw [put_else _ _ (fun he => hk (h k (by omega) he.symm).symm), stepV_told t c0 step k (by omega) (fun l' hl' he => h l' (by omega) he)]

theorem turn_val {S : Sys} {t : Sim} (h : Inv S t) {l0 c0 : Nat} (hc : c0 < S.n) :
  (∀ l, l < S.m → (turnT S t l0 c0).val (t.told l) = t.val (t.told l) + t.T l c0 * turnStep S t l0 c0) ∧
  (turnT S t l0 c0).val (t.col c0) = t.val (t.col c0) + turnStep S t l0 c0 ∧
  (∀ c, c < S.n → c ≠ c0 → (turnT S t l0 c0).val (t.col c) = t.val (t.col c)) := by
 refine ⟨fun l hl => ?_, ?_, fun c hc' hne => ?_⟩
 ·show put _ _ _ _ = _
  rw [put_else _ _ (h.at'.apart l c0 hl hc), stepV_told t c0 _ S.m hl (fun l' hl' he => h.at'.toldInj _ _ hl' hl he)]
 ·show put _ _ _ _ = _
  rw [put_at, stepV_else t c0 _ _ S.m (fun l hl => h.at'.apart l c0 hl hc)]
 ·show put _ _ _ _ = _
  rw [put_else _ _ (fun he => hne (h.at'.colInj _ _ hc' hc he)), stepV_else t c0 _ _ S.m (fun l hl => h.at'.apart l c hl hc')]

theorem Inv.turn {S : Sys} {t : Sim} (h : Inv S t) {l0 c0 : Nat} (hl : l0 < S.m) (hc : c0 < S.n) (ho : S.n ≤ t.told l0) (hb : t.T l0 c0 ≠ 0) : Inv S (turnT S t l0 c0) := by
 obtain ⟨hv1, hv2, hv3⟩ := turn_val (l0 := l0) h hc
 have htells := h.tells.turn hl hc hb
 have hout : (turnT S t l0 c0).val (t.told l0) = S.most (t.told l0 - S.n) := by
  rw [hv1 l0 hl, turnStep]
  grind
 refine ⟨h.at'.turn hl hc, htells, ?_, fun c hc' hlt => ?_, fun c hc' hge => ?_⟩
 · -- by the lines that were
  rw [h.tells]
  intro l hl'
  have h0 := (h.tells t.val).mp h.rel l hl'
  have h1 := sumR_put (f := fun c => t.T l c * (turnT S t l0 c0).val (t.col c)) (g := fun c => t.T l c * t.val (t.col c)) hc (fun c hc' hne => by
   rw [hv3 c hc' hne])
  rw [hv1 l hl', h1, h0, hv2]
  grind
 ·have hc0 : c ≠ c0 := fun he => by
   have h1 : (turnT S t l0 c0).col c = t.told l0 := by rw [he]; exact put_at _ _ _
   omega
  have h1 : (turnT S t l0 c0).col c = t.col c := put_else _ _ hc0
  rw [h1] at hlt ⊢
  rw [hv3 c hc' hc0]
  exact h.lo c hc' hlt
 ·by_cases hc0 : c = c0
  ·have h1 : (turnT S t l0 c0).col c = t.told l0 := by rw [hc0]; exact put_at _ _ _
   rw [h1]
   exact hout
  ·have h1 : (turnT S t l0 c0).col c = t.col c := put_else _ _ hc0
   rw [h1] at hge ⊢
   rw [hv3 c hc' hc0]
   exact h.hi c hc' hge

/-- What a free column is, where the invariant holds. -/
theorem Inv.free {S : Sys} {t : Sim} (h : Inv S t) {l c : Nat} (hc : c < S.n) : S.Free t l c ↔ (t.T l c ≠ 0 ∧ (0 < t.T l c ∨ t.col c < S.n)) := by
 unfold Sys.Free
 split
 ·rename_i hh
  constructor
  ·intro h1
   refine ⟨h1, ?_⟩
   rcases hh with h2 | h2
   ·exact .inl (by grind)
   ·exact .inr h2
  ·exact fun h1 => h1.1
 ·rename_i hh
  constructor
  ·intro h1
   rw [h.hi c hc (by omega)] at h1
   grind
  ·intro h1
   exact absurd (by rcases h1.2 with h2 | h2; exact .inl (by grind); exact .inr h2) hh

/-- One step: the first line that is over, the first column that is free. -/
structure Step (S : Sys) (t u : Sim) (l0 c0 : Nat) : Prop where
 line : First S.m (S.Over t) t.told l0
 column : First S.n (S.Free t l0) t.col c0
 eq : u = turnT S t l0 c0
theorem Step.inv {S : Sys} {t u : Sim} {l0 c0 : Nat} (h : Step S t u l0 c0) (hi : Inv S t) : Inv S u := by
 rw [h.eq]
 exact hi.turn h.line.1 h.column.1 h.line.2.1.1 ((hi.free h.column.1).mp h.column.2.1).1

/-- A row of steps. -/
structure Run (S : Sys) (t : Nat → Sim) (L C : Nat → Nat) (k : Nat) : Prop where
 start : Inv S (t 0)
 step : ∀ i, i < k → Step S (t i) (t (i + 1)) (L i) (C i)
theorem Run.inv {S : Sys} {t : Nat → Sim} {L C : Nat → Nat} {k : Nat} (h : Run S t L C k) : ∀ i, i ≤ k → Inv S (t i)
 | 0, _ => h.start
 | i + 1, hi => (h.step i (by omega)).inv (h.inv i (by omega))

/-- v stands in a column. -/
def In (S : Sys) (t : Sim) (v : Nat) : Prop := ∃ c, c < S.n ∧ t.col c = v
open Classical in
noncomputable def key (S : Sys) (t : Sim) : List Bool := (List.range (S.n + S.m)).map fun v => decide (In S t v)
theorem key_eq {S : Sys} {t u : Sim} (h : key S t = key S u) {v : Nat} (hv : v < S.n + S.m) : In S t v ↔ In S u v := by
 have h1 := congrArg (fun l => l[v]?) h
 simp only [key, List.getElem?_map, List.getElem?_range hv, Option.map_some, Option.some.injEq, decide_eq_decide] at h1
 exact h1

/-- What a step does to the columns. -/
theorem Step.cols {S : Sys} {t u : Sim} {l0 c0 : Nat} (h : Step S t u l0 c0) (hi : Inv S t) (v : Nat) :
  In S u v ↔ (v = t.told l0 ∨ (In S t v ∧ v ≠ t.col c0)) := by
 have hc := h.column.1
 have hu : u.col = put t.col c0 (t.told l0) := by rw [h.eq]; rfl
 constructor
 ·rintro ⟨c, h1, h2⟩
  rw [hu] at h2
  by_cases hh : c = c0
  ·rw [hh, put_at] at h2
   exact .inl h2.symm
  ·rw [put_else _ _ hh] at h2
   exact .inr ⟨⟨c, h1, h2⟩, fun he => hh (hi.at'.colInj _ _ h1 hc (h2.trans he))⟩
 ·rintro (h1 | ⟨⟨c, h1, h2⟩, h3⟩)
  ·exact ⟨c0, hc, by rw [hu, put_at, h1]⟩
  ·exact ⟨c, h1, by rw [hu, put_else _ _ (fun he => h3 (by rw [← h2, he])), h2]⟩
/-- One that stands in a line stands in no column. -/
theorem Inv.notIn {S : Sys} {t : Sim} (hi : Inv S t) {l : Nat} (hl : l < S.m) : ¬In S t (t.told l) := fun ⟨c, h1, h2⟩ => hi.at'.apart l c hl h1 h2.symm
theorem Inv.line {S : Sys} {t : Sim} (hi : Inv S t) {v : Nat} (hv : v < S.n + S.m) (hn : ¬In S t v) : ∃ l, l < S.m ∧ t.told l = v := by
 rcases hi.at'.all v hv with h | h
 ·exact h
 ·exact absurd h hn
end Go.Proofs.Ytphjffbldhhdiaa
namespace Go.Proofs.Ytphjffbldhhdiaa

theorem exists_max {P : Nat → Prop} : ∀ N, (∀ p, P p → p < N) → (∃ p, P p) → ∃ q, P q ∧ ∀ p, P p → p ≤ q
 | 0, h, ⟨p, hp⟩ => absurd (h p hp) (Nat.not_lt_zero _)
 | N + 1, h, hx => by
  by_cases hN : P N
  ·exact ⟨N, hN, fun p hp => Nat.le_of_lt_succ (h p hp)⟩
  ·exact exists_max N (fun p hp => by
    have := h p hp
    rcases Nat.lt_or_ge p N with h1 | h1
    ·exact h1
    ·exact absurd (show P N from (show p = N from by omega) ▸ hp) hN) hx

section
variable {S : Sys} {t : Nat → Sim} {L C : Nat → Nat} {k : Nat} (hr : Run S t L C k)
include hr

theorem Run.stays {v : Nat} {a : Nat} : ∀ d, a + d ≤ k → (∀ s, a ≤ s → s < a + d → v ≠ (t s).col (C s)) → In S (t a) v → In S (t (a + d)) v
 | 0, _, _, h => h
 | d + 1, hk, hn, h => by
  have h1 := Run.stays (v := v) (a := a) d (by omega) (fun s h1 h2 => hn s h1 (by omega)) h
  exact ((hr.step (a + d) (by omega)).cols (hr.inv _ (by omega)) v).mpr (.inr ⟨h1, hn _ (by omega) (by omega)⟩)
theorem Run.was {v : Nat} {a : Nat} : ∀ d, a + d ≤ k → (∀ s, a ≤ s → s < a + d → v ≠ (t s).told (L s)) → In S (t (a + d)) v → In S (t a) v
 | 0, _, _, h => h
 | d + 1, hk, hn, h => by
  rcases ((hr.step (a + d) (by omega)).cols (hr.inv _ (by omega)) v).mp h with h1 | ⟨h1, _⟩
  ·exact absurd h1 (hn _ (by omega) (by omega))
  ·exact Run.was (v := v) (a := a) d (by omega) (fun s h1 h2 => hn s h1 (by omega)) h1

theorem Run.entry {i j : Nat} (hj : j ≤ k) (hkey : key S (t i) = key S (t j)) {s : Nat} (h1 : i ≤ s) (h2 : s < j) :
  ∃ s', i ≤ s' ∧ s' < j ∧ (t s').col (C s') = (t s).told (L s) := by
 refine Classical.byContradiction fun hno => ?_
 have hno' : ∀ s', i ≤ s' → s' < j → (t s).told (L s) ≠ (t s').col (C s') := fun s' a b he => hno ⟨s', a, b, he.symm⟩
 have hs := hr.step s (by omega)
 have hin : In S (t (s + 1)) ((t s).told (L s)) := (hs.cols (hr.inv _ (by omega)) _).mpr (.inl rfl)
 have h3 := hr.stays (v := (t s).told (L s)) (a := s + 1) (j - (s + 1)) (by omega) (fun s' a b => hno' s' (by omega) (by omega)) hin
 rw [show s + 1 + (j - (s + 1)) = j from by omega] at h3
 have h4 := (key_eq hkey ((hr.inv s (by omega)).at'.toldLt _ hs.line.1)).mpr h3
 have h5 := hr.stays (v := (t s).told (L s)) (a := i) (s - i) (by omega) (fun s' a b => hno' s' (by omega) (by omega)) h4
 rw [show i + (s - i) = s from by omega] at h5
 exact (hr.inv s (by omega)).notIn hs.line.1 h5
theorem Run.exit {i j : Nat} (hj : j ≤ k) (hkey : key S (t i) = key S (t j)) {s : Nat} (h1 : i ≤ s) (h2 : s < j) :
  ∃ s', i ≤ s' ∧ s' < j ∧ (t s').told (L s') = (t s).col (C s) := by
 refine Classical.byContradiction fun hno => ?_
 have hno' : ∀ s', i ≤ s' → s' < j → (t s).col (C s) ≠ (t s').told (L s') := fun s' a b he => hno ⟨s', a, b, he.symm⟩
 have hs := hr.step s (by omega)
 have hat : In S (t s) ((t s).col (C s)) := ⟨_, hs.column.1, rfl⟩
 have hi := hr.inv s (by omega)
 have h3 := hr.was (v := (t s).col (C s)) (a := i) (s - i) (by omega) (fun s' a b => hno' s' (by omega) (by omega)) (by rw [show i + (s - i) = s from by omega]; exact hat)
 have h4 := (key_eq hkey (hi.at'.colLt _ hs.column.1)).mp h3
 have h5 := hr.was (v := (t s).col (C s)) (a := s + 1) (j - (s + 1)) (by omega) (fun s' a b => hno' s' (by omega) (by omega)) (by rw [show s + 1 + (j - (s + 1)) = j from by omega]; exact h4)
 rcases (hs.cols hi _).mp h5 with h6 | ⟨_, h6⟩
 ·exact hi.at'.apart _ _ hs.line.1 hs.column.1 h6.symm
 ·exact h6 rfl

theorem Run.bland {i j : Nat} (hij : i < j) (hj : j ≤ k) (hkey : key S (t i) = key S (t j)) : False := by
 obtain ⟨q, ⟨s, hs1, hs2, hsq⟩, hmax⟩ := exists_max (P := fun p => ∃ s, i ≤ s ∧ s < j ∧ (t s).told (L s) = p) (S.n + S.m)
  (fun p ⟨s, h1, h2, h3⟩ => h3 ▸ (hr.inv s (by omega)).at'.toldLt _ (hr.step s (by omega)).line.1)
  ⟨_, i, by omega, hij, rfl⟩
 obtain ⟨u, hu1, hu2, huq⟩ := hr.entry hj hkey hs1 hs2
 rw [hsq] at huq
 have hS := hr.step s (by omega)
 have hU := hr.step u (by omega)
 have hIs := hr.inv s (by omega)
 have hIu := hr.inv u (by omega)
 have hrow : ∀ p, (∃ s, i ≤ s ∧ s < j ∧ (t s).told (L s) = p) → S.n ≤ p := fun p ⟨s, h1, h2, h3⟩ => h3 ▸ (hr.step s (by omega)).line.2.1.1
 -- at s
 have hs_le : ∀ p, (∃ s, i ≤ s ∧ s < j ∧ (t s).told (L s) = p) → p ≠ q → (t s).val p ≤ S.most (p - S.n) := by
  intro p hp hne
  have hlt : p < q := by have := hmax p hp; omega
  have hpN : p < S.n + S.m := by
   obtain ⟨s', h1, h2, h3⟩ := hp
   exact h3 ▸ (hr.inv s' (by omega)).at'.toldLt _ (hr.step s' (by omega)).line.1
  rcases hIs.at'.all p hpN with ⟨l, h1, h2⟩ | ⟨c, h1, h2⟩
  ·by_cases ho : S.Over (t s) l
   ·have h3 := hS.line.2.2 l h1 ho
    omega
   ·have h3 : ¬(S.n ≤ (t s).told l ∧ S.most ((t s).told l - S.n) < (t s).val ((t s).told l)) := ho
    rw [h2] at h3
    have h4 := hrow p hp
    have h5 : ¬(S.most (p - S.n) < (t s).val p) := fun hh => h3 ⟨h4, hh⟩
    grind
  ·have h3 := hIs.hi c h1 (by rw [h2]; exact hrow p hp)
   rw [h2] at h3
   rw [h3]
   grind
 have hs_q : S.most (q - S.n) < (t s).val q := by
  have := hS.line.2.1.2
  rwa [hsq] at this
 -- at u
 have hb : ∃ s, i ≤ s ∧ s < j ∧ (t s).told (L s) = (t u).told (L u) := ⟨u, hu1, hu2, rfl⟩
 have hbq : (t u).told (L u) ≠ q := fun he => hIu.at'.apart _ _ hU.line.1 hU.column.1 (he.trans huq.symm)
 have hb1 := hs_le _ hb hbq
 have hb2 : S.most ((t u).told (L u) - S.n) < (t u).val ((t u).told (L u)) := hU.line.2.1.2
 have hqrow : S.n ≤ q := hrow q ⟨s, hs1, hs2, hsq⟩
 have e1 := (hIu.tells (t s).val).mp hIs.rel _ hU.line.1
 have e2 := (hIu.tells (t u).val).mp hIu.rel _ hU.line.1
 have hsum : (sumR S.n fun c => (t u).T (L u) c * (t u).val ((t u).col c)) ≤ sumR S.n fun c => (t u).T (L u) c * (t s).val ((t u).col c) := by
  refine sumR_le fun c hc => ?_
  by_cases hf : ∃ s, i ≤ s ∧ s < j ∧ (t s).told (L s) = (t u).col c
  ·have hval : (t u).val ((t u).col c) = S.most ((t u).col c - S.n) := hIu.hi c hc (hrow _ hf)
   by_cases hq : (t u).col c = q
   ·have hcc : c = C u := hIu.at'.colInj _ _ hc hU.column.1 (hq.trans huq.symm)
    have h1 := (hIu.free hU.column.1).mp hU.column.2.1
    rw [← hcc, hq] at h1
    have h2 : 0 < (t u).T (L u) c := by
     rcases h1.2 with h2 | h2
     ·exact h2
     ·omega
    rw [hval, hq]
    exact Rat.mul_le_mul_of_nonneg_left (by grind) (by grind)
   ·have h1 := hs_le _ hf hq
    have h2 : (t u).T (L u) c ≤ 0 := by
     refine Classical.byContradiction fun hno => ?_
     have hfree : S.Free (t u) (L u) c := (hIu.free hc).mpr ⟨by grind, .inl (by grind)⟩
     have h3 := hU.column.2.2 c hc hfree
     have h4 := hmax _ hf
     omega
    rw [hval]
    have h3 := Rat.mul_le_mul_of_nonneg_left (a := (t s).val ((t u).col c)) (b := S.most ((t u).col c - S.n)) (c := -(t u).T (L u) c) h1 (by grind)
    grind
  · -- it stays where it is
   have hne1 : ∀ s', i ≤ s' → s' < j → (t u).col c ≠ (t s').told (L s') := fun s' a b he => hf ⟨s', a, b, he.symm⟩
   have hne2 : ∀ s', i ≤ s' → s' < j → (t u).col c ≠ (t s').col (C s') := fun s' a b he => by
    obtain ⟨s2, a2, b2, h2⟩ := hr.exit hj hkey a b
    exact hf ⟨s2, a2, b2, by rw [h2, he]⟩
   have hin : In S (t s) ((t u).col c) := by
    have h0 : In S (t u) ((t u).col c) := ⟨c, hc, rfl⟩
    rcases Nat.le_total s u with hsu | hsu
    ·exact hr.was (v := (t u).col c) (a := s) (u - s) (by omega) (fun s' a b => hne1 s' (by omega) (by omega)) (by rw [show s + (u - s) = u from by omega]; exact h0)
    ·have := hr.stays (v := (t u).col c) (a := u) (s - u) (by omega) (fun s' a b => hne2 s' (by omega) (by omega)) h0
     rwa [show u + (s - u) = s from by omega] at this
   obtain ⟨c', hc', he⟩ := hin
   have : (t u).val ((t u).col c) = (t s).val ((t u).col c) := by
    rcases Nat.lt_or_ge ((t u).col c) S.n with hlt | hge
    ·rw [hIu.lo c hc hlt, ← he, hIs.lo c' hc' (by rw [he]; exact hlt)]
    ·rw [hIu.hi c hc hge]
     have h3 := hIs.hi c' hc' (by rw [he]; exact hge)
     rw [he] at h3
     rw [h3]
   rw [this]
   grind
 rw [← e1, ← e2] at hsum
 grind
/-- A run is no longer than there are keys. -/
theorem Run.ends : k < (allB (S.n + S.m)).length := by
 refine Classical.byContradiction fun hno => ?_
 obtain ⟨i, j, hij, hj, he⟩ := pigeonB (fun i => key S (t i)) (n := S.n + S.m) (fun i => by simp [key])
 exact hr.bland hij (by omega) he
end
end Go.Proofs.Ytphjffbldhhdiaa
namespace Go.Proofs.Ytphjffbldhhdiaa

/-- The table of the rows themselves. -/
def Sys.first (S : Sys) : Sim where
 told := fun l => S.n + l
 col := fun c => c
 T := S.A
 val := fun _ => 0
theorem Sys.first_inv (S : Sys) : Inv S S.first where
 at' := {
  toldLt := fun l h => by show S.n + l < _; omega
  colLt := fun c h => by show c < _; omega
  toldInj := fun l l' _ _ h => by have h : S.n + l = S.n + l' := h; omega
  colInj := fun c c' _ _ h => h
  apart := fun l c _ hc h => by have h : S.n + l = c := h; omega
  all := fun v hv => by
   rcases Nat.lt_or_ge v S.n with h | h
   ·exact .inr ⟨v, h, rfl⟩
   ·exact .inl ⟨v - S.n, by omega, by show S.n + (v - S.n) = v; omega⟩ }
 tells := fun z => Iff.rfl
 rel := fun i _ => by
  show (0 : Rat) = sumR S.n fun c => S.A i c * 0
  rw [show (fun c => S.A i c * (0 : Rat)) = fun _ => 0 from funext fun c => by grind, sumR_zero]
 lo := fun _ _ _ => rfl
 hi := fun c hc h => by have h : S.n ≤ c := h; omega

/-- All rows are so, of these unknowns. -/
def Sys.Fits (S : Sys) (x : Nat → Rat) : Prop := ∀ i, i < S.m → (sumR S.n fun c => S.A i c * x c) ≤ S.most i
/-- The rows, so many times each, say that 0 is less than 0. -/
structure Sys.Never (S : Sys) (w : Nat → Rat) : Prop where
 pos : ∀ i, i < S.m → 0 ≤ w i
 zero : ∀ k, k < S.n → (sumR S.m fun i => w i * S.A i k) = 0
 neg : (sumR S.m fun i => w i * S.most i) < 0
theorem Sys.Never.no {S : Sys} {w x : Nat → Rat} (h : S.Never w) (hx : S.Fits x) : False := by
 have h1 : (sumR S.m fun i => w i * sumR S.n fun c => S.A i c * x c) ≤ sumR S.m fun i => w i * S.most i :=
  sumR_le fun i hi => Rat.mul_le_mul_of_nonneg_left (hx i hi) (h.pos i hi)
 have h2 : (sumR S.m fun i => w i * sumR S.n fun c => S.A i c * x c) = 0 := by
  rw [show (fun i => w i * sumR S.n fun c => S.A i c * x c) = fun i => sumR S.n fun c => x c * (w i * S.A i c) from funext fun i => by
   rw [← sumR_mul]
   exact sumR_congr fun c _ => by grind]
  rw [← sumR_swap]
  rw [show (fun c => sumR S.m fun i => x c * (w i * S.A i c)) = fun c => x c * sumR S.m fun i => w i * S.A i c from funext fun c => sumR_mul _ _ _]
  rw [sumR_congr (g := fun _ => 0) fun c hc => by rw [h.zero c hc]; grind, sumR_zero]
 have h3 := h.neg
 rw [h2] at h1
 grind

/-- Where no row is over, all are so. -/
theorem Inv.fits {S : Sys} {t : Sim} (h : Inv S t) (hno : ∀ l, l < S.m → ¬S.Over t l) : S.Fits t.val := by
 intro i hi
 rw [← h.rel i hi]
 rcases h.at'.all (S.n + i) (by omega) with ⟨l, h1, h2⟩ | ⟨c, h1, h2⟩
 ·have h3 : ¬(S.n ≤ t.told l ∧ S.most (t.told l - S.n) < t.val (t.told l)) := hno l h1
  rw [h2, show S.n + i - S.n = i from by omega] at h3
  have : ¬(S.most i < t.val (S.n + i)) := fun hh => h3 ⟨by omega, hh⟩
  grind
 ·have h3 := h.hi c h1 (by omega)
  rw [h2, show S.n + i - S.n = i from by omega] at h3
  rw [h3]
  grind

/-- How many times each row is taken, after the first k columns. -/
def whyK (S : Sys) (t : Sim) (l0 : Nat) : Nat → (Nat → Rat)
 | 0 => put (fun _ => 0) (t.told l0 - S.n) 1
 | k + 1 => if t.T l0 k = 0 then whyK S t l0 k else put (whyK S t l0 k) (t.col k - S.n) (-(t.T l0 k))

section
variable {S : Sys} {t : Sim} (h : Inv S t) {l0 : Nat} (hl : l0 < S.m) (ho : S.Over t l0) (hno : ∀ c, c < S.n → ¬S.Free t l0 c)
include h hno
theorem why_neg {c : Nat} (hc : c < S.n) (h0 : t.T l0 c ≠ 0) : t.T l0 c < 0 ∧ S.n ≤ t.col c := by
 have h1 : ¬(t.T l0 c ≠ 0 ∧ (0 < t.T l0 c ∨ t.col c < S.n)) := fun hh => hno c hc ((h.free hc).mpr hh)
 have h2 : ¬(0 < t.T l0 c) := fun hh => h1 ⟨h0, .inl hh⟩
 have h3 : ¬(t.col c < S.n) := fun hh => h1 ⟨h0, .inr hh⟩
 exact ⟨by grind, by omega⟩
include hl ho
omit hl in
theorem why_else {i : Nat} (hi : S.n + i ≠ t.told l0) : ∀ k, k ≤ S.n → (∀ c, c < k → t.col c ≠ S.n + i) → whyK S t l0 k i = 0
 | 0, _, _ => put_else _ _ (fun he => hi (by have := ho.1; omega))
 | k + 1, hk, hn => by
  rw [whyK]
  split
  ·exact why_else hi k (by omega) (fun c hc => hn c (by omega))
  ·rename_i hT
   have h1 := (why_neg h hno (by omega) hT).2
   rw [put_else _ _ (fun he => hn k (by omega) (by omega))]
   exact why_else hi k (by omega) (fun c hc => hn c (by omega))
theorem why_sum (g : Nat → Rat) : ∀ k, k ≤ S.n → (sumR S.m fun i => whyK S t l0 k i * g i) = g (t.told l0 - S.n) - sumR k fun c => t.T l0 c * g (t.col c - S.n)
 | 0, _ => by
  have h1 := h.at'.toldLt l0 hl
  have h2 := ho.1
  rw [sumR_one (c := t.told l0 - S.n) (by omega) (fun i hi hne => by
   show put _ _ _ _ * _ = _
   rw [put_else _ _ hne]
   grind)]
  show put _ _ _ _ * _ = _
  rw [put_at, sumR]
  grind
 | k + 1, hk => by
  have ih := why_sum g k (by omega)
  rw [sumR]
  by_cases hT : t.T l0 k = 0
  ·rw [show whyK S t l0 (k + 1) = whyK S t l0 k from if_pos hT, ih, hT]
   grind
  ·rw [show whyK S t l0 (k + 1) = put (whyK S t l0 k) (t.col k - S.n) (-(t.T l0 k)) from if_neg hT]
   have h1 := why_neg h hno (show k < S.n by omega) hT
   have h2 := h.at'.colLt k (by omega)
   have h3 : whyK S t l0 k (t.col k - S.n) = 0 := why_else h ho hno (fun he => h.at'.apart l0 k hl (by omega) (by omega)) k (by omega) (fun c hc he => by
    have := h.at'.colInj c k (by omega) (by omega) (by omega)
    omega)
   rw [sumR_put (g := fun i => whyK S t l0 k i * g i) (c := t.col k - S.n) (by omega) (fun i _ hne => by rw [put_else _ _ hne]), ih, put_at, h3]
   grind
theorem why_never : S.Never (whyK S t l0 S.n) where
 pos := by
  intro i hi
  have : ∀ k, k ≤ S.n → 0 ≤ whyK S t l0 k i := by
   intro k
   induction k with
   | zero =>
    intro _
    show 0 ≤ put _ _ _ _
    unfold put
    split <;> grind
   | succ k ih =>
    intro hk
    rw [whyK]
    split
    ·exact ih (by omega)
    ·rename_i hT
     have h1 := (why_neg h hno (show k < S.n by omega) hT).1
     unfold put
     split
     ·grind
     ·exact ih (by omega)
  exact this _ (Nat.le_refl _)
 zero := by
  intro k hk
  rw [why_sum h hl ho hno (fun i => S.A i k) S.n (Nat.le_refl _)]
  have hx : ∀ i, S.ext (fun c => if c = k then 1 else 0) (S.n + i) = S.A i k := fun i => by
   rw [Sys.ext, if_neg (by omega), show S.n + i - S.n = i from by omega, sumR_one hk (fun c _ hne => by rw [if_neg hne]; grind), if_pos rfl]
   grind
  have h1 := (h.tells _).mp (S.ext_rel fun c => if c = k then 1 else 0) l0 hl
  have h2 := ho.1
  rw [show t.told l0 = S.n + (t.told l0 - S.n) from by omega, hx] at h1
  rw [h1, sumR_congr (g := fun c => t.T l0 c * S.A (t.col c - S.n) k) fun c hc => by
   by_cases hT : t.T l0 c = 0
   ·rw [hT]
    grind
   ·have h3 := (why_neg h hno hc hT).2
    rw [show t.col c = S.n + (t.col c - S.n) from by omega, hx, show S.n + (t.col c - S.n) - S.n = t.col c - S.n from by omega]]
  grind
 neg := by
  rw [why_sum h hl ho hno S.most S.n (Nat.le_refl _)]
  have h1 := (h.tells _).mp h.rel l0 hl
  have h2 := ho.2
  rw [h1, sumR_congr (g := fun c => t.T l0 c * S.most (t.col c - S.n)) fun c hc => by
   by_cases hT : t.T l0 c = 0
   ·rw [hT]
    grind
   ·have h3 := (why_neg h hno hc hT).2
    rw [h.hi c hc h3]] at h2
  grind
end

/-- What a first choice is hangs on nothing else. -/
theorem First.unique {n : Nat} {p : Nat → Prop} {f : Nat → Nat} {k k' : Nat} (hf : ∀ i j, i < n → j < n → f i = f j → i = j) (h : First n p f k) (h' : First n p f k') : k = k' :=
 hf _ _ h.1 h'.1 (Nat.le_antisymm (h.2.2 _ h'.1 h'.2.1) (h'.2.2 _ h.1 h.2.1))

/-- The last table of a run from the rows themselves. -/
structure Last (S : Sys) (u : Sim) : Prop where
 run : ∃ t L C k, Run S t L C k ∧ t 0 = S.first ∧ t k = u
 done : (∀ l, l < S.m → ¬S.Over u l) ∨ ∃ l0, First S.m (S.Over u) u.told l0 ∧ ∀ c, c < S.n → ¬S.Free u l0 c
theorem Step.unique {S : Sys} {t u u' : Sim} {l0 c0 l1 c1 : Nat} (hi : Inv S t) (h : Step S t u l0 c0) (h' : Step S t u' l1 c1) : u = u' := by
 have h1 : l0 = l1 := h.line.unique hi.at'.toldInj h'.line
 subst h1
 have h2 : c0 = c1 := h.column.unique hi.at'.colInj h'.column
 subst h2
 rw [h.eq, h'.eq]
theorem Step.notDone {S : Sys} {t u : Sim} {l0 c0 : Nat} (hi : Inv S t) (h : Step S t u l0 c0) : ¬((∀ l, l < S.m → ¬S.Over t l) ∨ ∃ l0, First S.m (S.Over t) t.told l0 ∧ ∀ c, c < S.n → ¬S.Free t l0 c) := by
 rintro (h1 | ⟨l1, h1, h2⟩)
 ·exact h1 _ h.line.1 h.line.2.1
 ·have h3 : l0 = l1 := h.line.unique hi.at'.toldInj h1
  subst h3
  exact h2 _ h.column.1 h.column.2.1
theorem Last.unique {S : Sys} {u u' : Sim} (h : Last S u) (h' : Last S u') : u = u' := by
 obtain ⟨⟨t, L, C, k, hr, h0, hk⟩, hd⟩ := h
 obtain ⟨⟨t', L', C', k', hr', h0', hk'⟩, hd'⟩ := h'
 have heq : ∀ i, i ≤ k → i ≤ k' → t i = t' i := by
  intro i
  induction i with
  | zero => intros; rw [h0, h0']
  | succ i ih =>
   intro a b
   have := ih (by omega) (by omega)
   have h1 := hr'.step i (by omega)
   rw [← this] at h1
   exact (hr.step i (by omega)).unique (hr.inv i (by omega)) h1
 rcases Nat.lt_trichotomy k k' with h1 | h1 | h1
 ·refine absurd hd ?_
  have := (hr'.step k h1).notDone (hr'.inv _ (by omega))
  rwa [← heq k (by omega) (by omega), hk] at this
 ·subst h1
  rw [← hk, ← hk', heq k (by omega) (by omega)]
 ·refine absurd hd' ?_
  have := (hr.step k' h1).notDone (hr.inv _ (by omega))
  rwa [heq k' (by omega) (by omega), hk'] at this
theorem Last.inv {S : Sys} {u : Sim} (h : Last S u) : Inv S u := by
 obtain ⟨t, L, C, k, hr, _, hk⟩ := h.run
 exact hk ▸ hr.inv k (Nat.le_refl _)
end Go.Proofs.Ytphjffbldhhdiaa
namespace Go.Proofs.Ytphjffbldhhdiaa

/-- A size of fractions. -/
structure Sizes (Z : Nat → Rat → Prop) : Prop where
 zero : Z 1 0
 one : Z 1 1
 mono : ∀ {m n q}, Z m q → m ≤ n → Z n q
 add : ∀ {m n p q}, Z m p → Z n q → Z (m + n + 1) (p + q)
 mul : ∀ {m n p q}, Z m p → Z n q → Z (m + n) (p * q)
 div : ∀ {m n p q}, Z m p → Z n q → Z (m + n) (p / q)
 neg : ∀ {m p}, Z m p → Z m (-p)

theorem pivT_size {Z : Nat → Rat → Prop} (hZ : Sizes Z) {m n k : Nat} {T : Nat → Nat → Rat} {l0 c0 : Nat} (hl : l0 < m) (hc : c0 < n)
  (h : ∀ l c, l < m → c < n → Z k (T l c)) (l c : Nat) (hl' : l < m) (hc' : c < n) : Z (4 * k + 1) (pivT T l0 c0 l c) := by
 unfold pivT
 split <;> split
 ·exact hZ.mono (hZ.div hZ.one (h _ _ hl hc)) (by omega)
 ·exact hZ.mono (hZ.neg (hZ.div (h _ _ hl hc') (h _ _ hl hc))) (by omega)
 ·exact hZ.mono (hZ.mul (h _ _ hl' hc) (hZ.div hZ.one (h _ _ hl hc))) (by omega)
 ·exact hZ.mono (hZ.add (h _ _ hl' hc') (hZ.mul (h _ _ hl' hc) (hZ.neg (hZ.div (h _ _ hl hc') (h _ _ hl hc))))) (by omega)

/-- How many of the first k are so. -/
def cnt (p : Nat → Bool) : Nat → Nat
 | 0 => 0
 | k + 1 => cnt p k + if p k then 1 else 0
theorem cnt_le (p : Nat → Bool) : ∀ k, cnt p k ≤ k
 | 0 => Nat.le_refl _
 | k + 1 => by have := cnt_le p k; rw [cnt]; split <;> omega
theorem cnt_zero {p : Nat → Bool} : ∀ {k}, cnt p k = 0 → ∀ i, i < k → p i = false
 | k + 1, h, i, hi => by
  rw [cnt] at h
  rcases Nat.lt_or_ge i k with h1 | h1
  ·exact cnt_zero (by omega) i h1
  ·obtain rfl : i = k := by omega
   cases hp : p i with
   | false => rfl
   | true => rw [hp] at h; simp at h
theorem cnt_pos {p : Nat → Bool} : ∀ {k d}, cnt p k = d + 1 → ∃ i, i < k ∧ p i = true
 | k + 1, d, h => by
  rw [cnt] at h
  cases hp : p k with
  | true => exact ⟨k, by omega, hp⟩
  | false =>
   rw [hp] at h
   obtain ⟨i, h1, h2⟩ := cnt_pos (p := p) (k := k) (d := d) (by simpa using h)
   exact ⟨i, by omega, h2⟩
theorem cnt_congr {p q : Nat → Bool} : ∀ {k}, (∀ i, i < k → p i = q i) → cnt p k = cnt q k
 | 0, _ => rfl
 | k + 1, h => by rw [cnt, cnt, cnt_congr fun i hi => h i (by omega), h k (by omega)]
theorem cnt_less {p q : Nat → Bool} {u : Nat} : ∀ {k}, u < k → p u = true → q u = false → (∀ i, i < k → i ≠ u → q i = p i) → cnt p k = cnt q k + 1
 | k + 1, hu, h1, h2, h => by
  rw [cnt, cnt]
  rcases Nat.lt_or_ge u k with hk | hk
  ·rw [cnt_less hk h1 h2 fun i hi hn => h i (by omega) hn, h k (by omega) (by omega)]
   omega
  ·obtain rfl : u = k := by omega
   rw [cnt_congr (p := p) (q := q) fun i hi => (h i (by omega) (by omega)).symm, h1, h2]
   simp

open Classical in
/-- u stands in no column. -/
noncomputable def outB (S : Sys) (col : Nat → Nat) (u : Nat) : Bool := !decide (∃ c, c < S.n ∧ col c = u)
theorem outB_true {S : Sys} {col : Nat → Nat} {u : Nat} : outB S col u = true ↔ ¬∃ c, c < S.n ∧ col c = u := by simp [outB]
theorem outB_false {S : Sys} {col : Nat → Nat} {u : Nat} : outB S col u = false ↔ ∃ c, c < S.n ∧ col c = u := by simp [outB]

/-- The size after so many turns. -/
def szB (s : Nat) : Nat → Nat
 | 0 => s
 | d + 1 => 4 * szB s d + 1
theorem szB_mono {s : Nat} : ∀ {d e : Nat}, d ≤ e → szB s d ≤ szB s e
  | d, e, h => by
    induction e with
    | zero => obtain rfl : d = 0 := by omega
              exact Nat.le_refl _
    | succ e ih =>
      rcases Nat.lt_or_ge d (e + 1) with h1 | h1
      · have := ih (by omega); rw [show szB s (e + 1) = 4 * szB s e + 1 from rfl]; omega
      · obtain rfl : d = e + 1 := by omega
        exact Nat.le_refl _

def unit (k : Nat) : Nat → Rat := fun c => if c = k then 1 else 0
theorem unit_at (k : Nat) : unit k k = 1 := if_pos rfl
theorem unit_else {k c : Nat} (h : c ≠ k) : unit k c = 0 := if_neg h

/-- Where all unknowns stand in columns, nothing else does. -/
theorem all_in {S : Sys} {col : Nat → Nat} (h : ∀ u, u < S.n → ∃ c, c < S.n ∧ col c = u) {c : Nat} (hc : c < S.n) : col c < S.n := by
 refine Classical.byContradiction fun hno => ?_
 have hx : ∀ u, ∃ c', c' < S.n ∧ (u < S.n → col c' = u) ∧ (¬u < S.n → c' = c) := fun u => by
  by_cases hu : u < S.n
  ·obtain ⟨c', h1, h2⟩ := h u hu
   exact ⟨c', h1, fun _ => h2, fun hh => absurd hu hh⟩
  ·exact ⟨c, hc, fun hh => absurd hh hu, fun _ => rfl⟩
 let f := fun u => Classical.choose (hx u)
 have hf := fun u => Classical.choose_spec (hx u)
 obtain ⟨i, j, hij, hj, he⟩ := pigeon S.n f (fun i _ => (hf i).1)
 have hi := (hf i).2.1 (by omega)
 rcases Nat.lt_or_ge j S.n with h1 | h1
 ·have := (hf j).2.1 h1
  have he' : Classical.choose (hx i) = Classical.choose (hx j) := he
  rw [he'] at hi
  omega
 ·have := (hf j).2.2 (by omega)
  have he' : Classical.choose (hx i) = Classical.choose (hx j) := he
  rw [he', this] at hi
  omega

theorem table_size {Z : Nat → Rat → Prop} (hZ : Sizes Z) {S : Sys} {s : Nat} (hA : ∀ i c, i < S.m → c < S.n → Z s (S.A i c)) :
  ∀ (d : Nat) {told col : Nat → Nat} {T : Nat → Nat → Rat}, Places S told col → Tells S told col T → cnt (outB S col) S.n = d → ∀ l c, l < S.m → c < S.n → Z (szB s d) (T l c)
 | 0, told, col, T, hp, ht, hd, l, c, hl, hc => by
  have hall : ∀ u, u < S.n → ∃ c, c < S.n ∧ col c = u := fun u hu => outB_false.mp (cnt_zero hd u hu)
  have hcol : ∀ c, c < S.n → col c < S.n := fun c hc => all_in hall hc
  have htold : S.n ≤ told l := by
   refine Classical.byContradiction fun hno => ?_
   obtain ⟨c', h1, h2⟩ := hall (told l) (by omega)
   exact hp.apart l c' hl h1 h2.symm
  have hlt := hp.toldLt l hl
  have h1 := (ht _).mp (S.ext_rel (unit (col c))) l hl
  rw [sumR_one hc (fun c' hc' hne => by
   rw [S.ext_lo _ (hcol c' hc'), unit_else (fun he => hne (hp.colInj _ _ hc' hc he))]
   grind), S.ext_lo _ (hcol c hc), unit_at, Sys.ext, if_neg (by omega), sumR_one (hcol c hc) (fun c' _ hne => by rw [unit_else hne]; grind), unit_at] at h1
  have h2 : T l c = S.A (told l - S.n) (col c) := by grind
  rw [h2]
  exact hA _ _ (by omega) (hcol c hc)
 | d + 1, told, col, T, hp, ht, hd, l, c, hl, hc => by
  obtain ⟨u, hu, ho⟩ := cnt_pos hd
  have ho' := outB_true.mp ho
  obtain ⟨l0, hl0, he0⟩ : ∃ l, l < S.m ∧ told l = u := by
   rcases hp.all u (by omega) with h | h
   ·exact h
   ·exact absurd h ho'
  obtain ⟨c0, hc0, hge, hne⟩ : ∃ c0, c0 < S.n ∧ S.n ≤ col c0 ∧ T l0 c0 ≠ 0 := by
   refine Classical.byContradiction fun hno => ?_
   have h1 := (ht _).mp (S.ext_rel (unit u)) l0 hl0
   rw [he0, S.ext_lo _ hu, unit_at, sumR_congr (g := fun _ => 0) (fun c' hc' => by
    rcases Nat.lt_or_ge (col c') S.n with h2 | h2
    ·rw [S.ext_lo _ h2, unit_else (fun he => ho' ⟨c', hc', he⟩)]
     grind
    ·have h3 : T l0 c' = 0 := Classical.byContradiction fun h3 => hno ⟨c', hc', h2, h3⟩
     rw [h3]
     grind), sumR_zero] at h1
   exact absurd h1 (by decide)
  have hp' := hp.turn hl0 hc0
  have ht' := ht.turn hl0 hc0 hne
  have hd' : cnt (outB S (put col c0 (told l0))) S.n = d := by
   have h1 : cnt (outB S col) S.n = cnt (outB S (put col c0 (told l0))) S.n + 1 := by
    refine cnt_less hu ho (outB_false.mpr ⟨c0, hc0, by rw [put_at, he0]⟩) fun i hi hne' => ?_
    have : (∃ c, c < S.n ∧ put col c0 (told l0) c = i) ↔ ∃ c, c < S.n ∧ col c = i := by
     constructor
     ·rintro ⟨c', h1, h2⟩
      by_cases hh : c' = c0
      ·rw [hh, put_at, he0] at h2
       omega
      ·rw [put_else _ _ hh] at h2
       exact ⟨c', h1, h2⟩
     ·rintro ⟨c', h1, h2⟩
      have hh : c' ≠ c0 := fun hh => by rw [hh] at h2; omega
      exact ⟨c', h1, by rw [put_else _ _ hh, h2]⟩
    simp only [outB, this]
   omega
  have ih := table_size hZ hA d hp' ht' hd'
  have h1 := pivT_size hZ hl0 hc0 ih l c hl hc
  rw [pivT_pivT hne] at h1
  exact h1
/-- No table's times are greater than so. -/
theorem Inv.size {Z : Nat → Rat → Prop} (hZ : Sizes Z) {S : Sys} {t : Sim} {s : Nat} (hA : ∀ i c, i < S.m → c < S.n → Z s (S.A i c)) (h : Inv S t) {l c : Nat} (hl : l < S.m) (hc : c < S.n) : Z (szB s S.n) (t.T l c) :=
 hZ.mono (table_size hZ hA _ h.at' h.tells rfl l c hl hc) (szB_mono (cnt_le _ _))

theorem sumR_size {Z : Nat → Rat → Prop} (hZ : Sizes Z) {k : Nat} {f : Nat → Rat} : ∀ n, (∀ i, i < n → Z k (f i)) → Z (n * (k + 1) + 1) (sumR n f)
 | 0, _ => by rw [Nat.zero_mul]; exact hZ.zero
 | n + 1, h => by
  rw [sumR]
  exact hZ.mono (hZ.add (sumR_size hZ n fun i hi => h i (by omega)) (h n (by omega))) (by rw [Nat.add_mul, Nat.one_mul]; omega)
/-- No table's values are. -/
theorem Inv.valSize {Z : Nat → Rat → Prop} (hZ : Sizes Z) {S : Sys} {t : Sim} {s M : Nat} (hA : ∀ i c, i < S.m → c < S.n → Z s (S.A i c)) (hM : ∀ i, i < S.m → Z M (S.most i)) (h1 : 1 ≤ M) (h : Inv S t) {v : Nat} (hv : v < S.n + S.m) :
  Z (S.n * (szB s S.n + M + 1) + M + 1) (t.val v) := by
 have hcol : ∀ c, c < S.n → Z M (t.val (t.col c)) := fun c hc => by
  rcases Nat.lt_or_ge (t.col c) S.n with h2 | h2
  ·rw [h.lo c hc h2]
   exact hZ.mono hZ.zero h1
  ·rw [h.hi c hc h2]
   have := h.at'.colLt c hc
   exact hM _ (by omega)
 rcases h.at'.all v hv with ⟨l, h2, h3⟩ | ⟨c, h2, h3⟩
 ·rw [← h3, (h.tells _).mp h.rel l h2]
  exact hZ.mono (sumR_size hZ (k := szB s S.n + M) S.n fun c hc => hZ.mul (h.size hZ hA h2 hc) (hcol c hc)) (by omega)
 ·rw [← h3]
  exact hZ.mono (hcol c h2) (by omega)
end Go.Proofs.Ytphjffbldhhdiaa
