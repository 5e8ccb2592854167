/- Sums of fractions; a number of steps too many: plain. -/
import Derived.Test.YtphjffbldhhdiaaGreatDoorProg
namespace Go.Proofs.YtphjffbldhhdiaaGreatDoor

/-- f 0 + .. + f (n - 1). -/
def sumR : Nat → (Nat → Rat) → Rat
  | 0, _ => 0
  | n + 1, f => sumR n f + f n
theorem sumR_congr {f g : Nat → Rat} : ∀ {n : Nat}, (∀ i, i < n → f i = g i) → sumR n f = sumR n g
  | 0, _ => rfl
  | n + 1, h => by rw [sumR, sumR, sumR_congr (n := n) (fun i hi => h i (by omega)), h n (by omega)]
theorem sumR_add (f g : Nat → Rat) : ∀ n, sumR n (fun i => f i + g i) = sumR n f + sumR n g
  | 0 => by simp only [sumR]; grind
  | n + 1 => by simp only [sumR, sumR_add f g n]; grind
theorem sumR_mul (a : Rat) (f : Nat → Rat) : ∀ n, sumR n (fun i => a * f i) = a * sumR n f
  | 0 => by simp [sumR]
  | n + 1 => by simp only [sumR, sumR_mul a f n]; grind
theorem sumR_zero : ∀ n, sumR n (fun _ => 0) = 0
  | 0 => rfl
  | n + 1 => by rw [sumR, sumR_zero n]; grind
theorem sumR_sub (f g : Nat → Rat) (n : Nat) : sumR n (fun i => f i - g i) = sumR n f - sumR n g := by
  have h := sumR_add f (fun i => (-1) * g i) n
  rw [sumR_mul] at h
  rw [show (fun i => f i - g i) = (fun i => f i + (-1) * g i) from funext fun i => by grind, h]
  grind
/-- One term is another. -/
theorem sumR_put {f g : Nat → Rat} {c : Nat} : ∀ {n : Nat}, c < n → (∀ i, i < n → i ≠ c → f i = g i) → sumR n f = sumR n g + (f c - g c)
  | n + 1, hc, h => by
    rcases Nat.lt_or_ge c n with h1 | h1
    · rw [sumR, sumR, sumR_put h1 (fun i hi => h i (by omega)), h n (by omega) (by omega)]
      grind
    · obtain rfl : c = n := by omega
      rw [sumR, sumR, sumR_congr (n := c) (fun i hi => h i (by omega) (by omega))]
      grind
theorem sumR_nonneg {f : Nat → Rat} : ∀ {n : Nat}, (∀ i, i < n → 0 ≤ f i) → 0 ≤ sumR n f
  | 0, _ => by simp [sumR]
  | n + 1, h => by
    have h1 := sumR_nonneg (n := n) (fun i hi => h i (by omega))
    have h2 := h n (by omega)
    rw [sumR]
    grind
theorem sumR_le {f g : Nat → Rat} {n : Nat} (h : ∀ i, i < n → f i ≤ g i) : sumR n f ≤ sumR n g := by
  have := sumR_nonneg (f := fun i => g i - f i) (n := n) (fun i hi => by have := h i hi; grind)
  rw [sumR_sub] at this
  grind
/-- One term alone. -/
theorem sumR_one {f : Nat → Rat} {c n : Nat} (hc : c < n) (h : ∀ i, i < n → i ≠ c → f i = 0) : sumR n f = f c := by
  have := sumR_put (f := f) (g := fun _ => 0) hc (fun i hi hn => h i hi hn)
  rw [sumR_zero] at this
  rw [this]
  grind
theorem sumR_swap (f : Nat → Nat → Rat) (m : Nat) : ∀ n, sumR n (fun i => sumR m (fun j => f i j)) = sumR m (fun j => sumR n (fun i => f i j))
  | 0 => by simp only [sumR]; exact (sumR_zero m).symm
  | n + 1 => by
    rw [sumR, sumR_swap f m n, ← sumR_add]
    rfl

/-- More pigeons than holes. -/
theorem pigeon : ∀ (K : Nat) (f : Nat → Nat), (∀ i, i ≤ K → f i < K) → ∃ i j, i < j ∧ j ≤ K ∧ f i = f j
  | 0, f, h => absurd (h 0 (Nat.le_refl _)) (Nat.not_lt_zero _)
  | K + 1, f, h => by
    by_cases hx : ∃ i, i ≤ K ∧ f i = f (K + 1)
    · obtain ⟨i, hi, he⟩ := hx
      exact ⟨i, K + 1, by omega, Nat.le_refl _, he⟩
    · have hne : ∀ i, i ≤ K → f i ≠ f (K + 1) := fun i hi he => hx ⟨i, hi, he⟩
      obtain ⟨i, j, hij, hj, he⟩ := pigeon K (fun i => if f i = K then f (K + 1) else f i) (fun i hi => by
        have h1 := h i (by omega)
        have h2 := h (K + 1) (Nat.le_refl _)
        have h3 := hne i hi
        show (if f i = K then f (K + 1) else f i) < K
        split <;> omega)
      refine ⟨i, j, hij, by omega, ?_⟩
      have h1 := hne i (by omega)
      have h2 := hne j hj
      change (if f i = K then f (K + 1) else f i) = (if f j = K then f (K + 1) else f j) at he
      split at he <;> split at he <;> omega
/-- All rows of truths of one length. -/
def allB : Nat → List (List Bool)
  | 0 => [[]]
  | n + 1 => (allB n).map (true :: ·) ++ (allB n).map (false :: ·)
theorem mem_allB : ∀ (n : Nat) (l : List Bool), l.length = n → l ∈ allB n
  | 0, l, h => by rw [List.eq_nil_of_length_eq_zero h]; simp [allB]
  | n + 1, b :: l, h => by
    have := mem_allB n l (by simpa using h)
    cases b <;> simp [allB, this]
/-- A run that is long enough meets one row of truths twice. -/
theorem pigeonB {n : Nat} (f : Nat → List Bool) (hf : ∀ i, (f i).length = n) : ∃ i j, i < j ∧ j ≤ (allB n).length ∧ f i = f j := by
  obtain ⟨i, j, hij, hj, he⟩ := pigeon (allB n).length (fun i => (allB n).idxOf (f i)) (fun i _ => List.idxOf_lt_length_of_mem (mem_allB n _ (hf i)))
  refine ⟨i, j, hij, hj, ?_⟩
  have h1 := List.getElem_idxOf (List.idxOf_lt_length_of_mem (mem_allB n _ (hf i)))
  have h2 := List.getElem_idxOf (List.idxOf_lt_length_of_mem (mem_allB n _ (hf j)))
  rw [← h1, ← h2]
  simp only [he]
end Go.Proofs.YtphjffbldhhdiaaGreatDoor
