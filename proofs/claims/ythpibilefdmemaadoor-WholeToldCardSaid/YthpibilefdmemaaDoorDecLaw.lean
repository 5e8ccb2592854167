/- Decimal numerals: nine digits at a time. -/
import Derived.Test.YthpibilefdmemaaDoorNumMem
import Derived.Lib.ItoaNum
namespace Go.Proofs.YthpibilefdmemaaDoor
open Go.RowKit

/-- k decimal digits of u, the first ahead. -/
def fix : Nat → Nat → List UInt8
  | 0, _ => []
  | k + 1, u => fix k (u / 10) ++ [UInt8.ofNat (48 + u % 10)]
theorem fix_len : ∀ (k u : Nat), (fix k u).length = k
  | 0, _ => rfl
  | k + 1, u => by simp [fix, fix_len k]
theorem fix_zero : ∀ k : Nat, fix k 0 = List.replicate k 48
  | 0 => rfl
  | k + 1 => by
    rw [fix, fix_zero k, List.replicate_succ']
    rfl
theorem fix_pad : ∀ (k u : Nat), u < 10 ^ (k + 1) → Lib.nDigits u ≤ k + 1 ∧ fix (k + 1) u = List.replicate (k + 1 - Lib.nDigits u) 48 ++ Lib.decDigits u
  | k, u, h => by
    by_cases h10 : u < 10
    · rw [Lib.nDigits_small h10, Lib.decDigits_one h10, fix, show u / 10 = 0 by omega, fix_zero, show u % 10 = u by omega]
      exact ⟨by omega, rfl⟩
    · cases k with
      | zero => simp at h; omega
      | succ k =>
        obtain ⟨h1, h2⟩ := fix_pad k (u / 10) (by rw [Nat.pow_succ] at h; omega)
        rw [Lib.nDigits_big h10, Lib.decDigits, dif_neg h10, fix, h2, List.append_assoc]
        exact ⟨by omega, by rw [show k + 1 + 1 - (Lib.nDigits (u / 10) + 1) = k + 1 - Lib.nDigits (u / 10) by omega]⟩
theorem dec_split : ∀ (k q r : Nat), 1 ≤ q → r < 10 ^ k → Lib.decDigits (q * 10 ^ k + r) = Lib.decDigits q ++ fix k r
  | 0, q, r, _, hr => by
    obtain rfl : r = 0 := by simpa using hr
    simp [fix]
  | k + 1, q, r, hq, hr => by
    have hp : 1 ≤ 10 ^ k := Nat.one_le_pow _ _ (by decide)
    have hqp : 10 ^ k ≤ q * 10 ^ k := Nat.le_mul_of_pos_left _ hq
    have e : q * 10 ^ (k + 1) = (q * 10 ^ k) * 10 := by rw [Nat.pow_succ, Nat.mul_assoc]
    rw [Nat.pow_succ] at hr
    rw [e]
    have ih := dec_split k q (r / 10) hq (by omega)
    generalize q * 10 ^ k = m at *
    rw [Lib.decDigits, dif_neg (by omega), show (m * 10 + r) / 10 = m + r / 10 by omega, ih, show (m * 10 + r) % 10 = r % 10 by omega, fix, List.append_assoc]

/-- The text of the digits from the greatest one down to j. -/
def txt (ds : List Nat) (j : Nat) : List UInt8 := Lib.decDigits (val BB (ds.drop j))
theorem val_drop_pos {ds : List Nat} (hc : Canon BB ds) {j : Nat} (hj : j < ds.length) : 0 < val BB (ds.drop j) := by
  refine Canon.pos (by rw [BB_eq]; decide) ⟨hc.1.drop j, ?_⟩ (by intro h; rw [List.drop_eq_nil_iff] at h; omega)
  rw [List.getLast?_drop, if_neg (by omega)]
  exact hc.2
theorem txt_step {ds : List Nat} (hc : Canon BB ds) {j : Nat} (hj : j + 1 < ds.length) : txt ds j = txt ds (j + 1) ++ (List.replicate (9 - Lib.nDigits ds[j]) 48 ++ Lib.decDigits ds[j]) := by
  have h9 : ds[j] < 10 ^ 9 := hc.1.at (by omega)
  unfold txt
  rw [List.drop_eq_getElem_cons (show j < ds.length by omega)]
  show Lib.decDigits (ds[j] + BB * val BB (ds.drop (j + 1))) = _
  have hp := val_drop_pos hc hj
  generalize val BB (ds.drop (j + 1)) = V at hp
  rw [Nat.add_comm, Nat.mul_comm, show BB = 10 ^ 9 from rfl, dec_split 9 _ _ hp h9, (fix_pad 8 ds[j] h9).2]
theorem nDigits9 {d : Nat} (h : d < BB) : Lib.nDigits d ≤ 9 := (fix_pad 8 d h).1
theorem txt_last {ds : List Nat} {j : Nat} (hj : j + 1 = ds.length) : txt ds j = Lib.decDigits (ds[j]'(by omega)) := by
  unfold txt
  rw [List.drop_eq_getElem_cons (show j < ds.length by omega), List.drop_of_length_le (by omega)]
  simp [val]
/-- A number's text. -/
def decZ (z : Int) : List UInt8 := (if z < 0 then [45] else []) ++ Lib.decDigits z.natAbs
end Go.Proofs.YthpibilefdmemaaDoor
