/- The euclidean quotient and what is left, out of the two sizes. -/
import Derived.Test.YthpibilefdmemaaDoorNumMem
namespace Go.Proofs.YthpibilefdmemaaDoor
open Go.RowKit

theorem div_of {x y q r : Int} (h : x = y * q + r) (h0 : 0 ≤ r) (h1 : r < y.natAbs) : q = x / y ∧ r = x % y := by
  have hy : y ≠ 0 := by rintro rfl; simp at h1; omega
  have h3 : r / y = 0 := by
    rcases Int.lt_or_le y 0 with hn | hn
    · have h := Int.ediv_neg r (-y)
      have h' : r / -y = 0 := Int.ediv_eq_zero_of_lt h0 (by omega)
      rw [Int.neg_neg, h'] at h
      omega
    · exact Int.ediv_eq_zero_of_lt h0 (by omega)
  have h2 : x / y = q := by rw [h, Int.add_comm, Int.add_mul_ediv_left _ _ hy, h3, Int.zero_add]
  have h4 := Int.mul_ediv_add_emod x y
  rw [h2] at h4
  exact ⟨h2.symm, by omega⟩

theorem div_nat {x y : Int} (hy : y ≠ 0) : ∃ q r : Nat, q = x.natAbs / y.natAbs ∧ r = x.natAbs % y.natAbs ∧ r < y.natAbs ∧ (x.natAbs : Int) = (y.natAbs : Int) * (q : Int) + (r : Int) := by
  refine ⟨_, _, rfl, rfl, Nat.mod_lt _ (by omega), ?_⟩
  have := Nat.div_add_mod x.natAbs y.natAbs
  rw [← Int.natCast_mul, ← Int.natCast_add, this]

theorem div_pos {x y : Int} (hy : y ≠ 0) (hx : ¬ x < 0) : signZ (false != decide (y < 0)) (x.natAbs / y.natAbs) = x / y ∧ ((x.natAbs % y.natAbs : Nat) : Int) = x % y := by
  obtain ⟨q, r, e1, e2, hr, he⟩ := div_nat (x := x) hy
  rw [← e1, ← e2]
  refine div_of ?_ (by omega) (by omega)
  by_cases h : y < 0
  · have : (y.natAbs : Int) = -y := by omega
    rw [this] at he
    simp only [signZ, h, decide_true, Bool.false_bne, if_true]
    rw [Int.mul_neg, ← Int.neg_mul]; omega
  · have : (y.natAbs : Int) = y := by omega
    rw [this] at he
    simp only [signZ, h, decide_false, bne_self_eq_false, Bool.false_eq_true, if_false]
    omega

theorem div_neg0 {x y : Int} (hy : y ≠ 0) (hx : x < 0) (h0 : x.natAbs % y.natAbs = 0) : signZ (true != decide (y < 0)) (x.natAbs / y.natAbs) = x / y ∧ 0 = x % y := by
  obtain ⟨q, r, e1, e2, hr, he⟩ := div_nat (x := x) hy
  rw [← e2] at h0
  rw [← e1]
  subst h0
  refine div_of ?_ (by omega) (by omega)
  by_cases h : y < 0
  · have : (y.natAbs : Int) = -y := by omega
    rw [this, Int.neg_mul] at he
    simp [signZ, h]
    omega
  · have : (y.natAbs : Int) = y := by omega
    rw [this] at he
    simp [signZ, h, Int.mul_neg]
    omega

theorem div_neg1 {x y : Int} (hy : y ≠ 0) (hx : x < 0) (h0 : 0 < x.natAbs % y.natAbs) : signZ (true != decide (y < 0)) (x.natAbs / y.natAbs + 1) = x / y ∧ ((y.natAbs - x.natAbs % y.natAbs : Nat) : Int) = x % y := by
  obtain ⟨q, r, e1, e2, hr, he⟩ := div_nat (x := x) hy
  rw [← e2] at h0 ⊢
  rw [← e1]
  refine div_of ?_ (by omega) (by omega)
  by_cases h : y < 0
  · have : (y.natAbs : Int) = -y := by omega
    rw [this, Int.neg_mul] at he
    simp [signZ, h, Int.mul_add]
    omega
  · have : (y.natAbs : Int) = y := by omega
    rw [this] at he
    simp [signZ, h, Int.mul_neg, Int.mul_add]
    omega
end Go.Proofs.YthpibilefdmemaaDoor
