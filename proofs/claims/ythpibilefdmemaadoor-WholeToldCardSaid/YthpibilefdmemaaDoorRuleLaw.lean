/- What the law WholeRules asks of plain numbers and texts. -/
import Derived.Test.YthpibilefdmemaaDoorParse
import Derived.Test.YthpibilefdmemaaDoorThree
namespace Go.Proofs.YthpibilefdmemaaDoor
open Go.RowKit

theorem dec_facts : ∀ (k n : Nat), n ≤ k → decN (Lib.decDigits n) = n ∧ (Lib.decDigits n).all decB = true ∧ (Lib.decDigits n).head? ≠ some 45
  | 0, n, h => by
    obtain rfl : n = 0 := by omega
    rw [Lib.decDigits_one (by decide)]
    exact ⟨rfl, rfl, by decide⟩
  | k + 1, n, h => by
    by_cases h10 : n < 10
    · rw [Lib.decDigits_one h10]
      have e : (UInt8.ofNat (48 + n)).toNat = 48 + n := by rw [UInt8.toNat_ofNat']; omega
      refine ⟨?_, ?_, ?_⟩
      · show 0 * 10 + ((UInt8.ofNat (48 + n)).toNat - 48) = n
        rw [e]; omega
      · simp only [List.all_cons, List.all_nil, Bool.and_true, decB, e]
        simp; omega
      · intro h
        have h1 : UInt8.ofNat (48 + n) = 45 := by simpa using h
        have h2 := congrArg UInt8.toNat h1
        rw [e] at h2
        have : (45 : UInt8).toNat = 45 := rfl
        omega
    · obtain ⟨h1, h2, h3⟩ := dec_facts k (n / 10) (by omega)
      have e : (UInt8.ofNat (48 + n % 10)).toNat = 48 + n % 10 := by rw [UInt8.toNat_ofNat']; omega
      rw [Lib.decDigits, dif_neg h10]
      refine ⟨?_, ?_, ?_⟩
      · rw [decN_snoc, h1, e]; omega
      · rw [List.all_append, h2]
        simp only [List.all_cons, List.all_nil, Bool.and_true, decB, e]
        simp; omega
      · rw [List.head?_append]
        cases hd : (Lib.decDigits (n / 10)).head? with
        | none =>
          exfalso
          have h4 := congrArg List.length (List.head?_eq_none_iff.1 hd)
          rw [Lib.decDigits_length] at h4
          have h5 : 0 < Lib.nDigits (n / 10) := by
            by_cases h : n / 10 < 10
            · rw [Lib.nDigits_small h]; decide
            · rw [Lib.nDigits_big h]; omega
          simp at h4
          omega
        | some c => rw [hd] at h3; simpa using h3
theorem nDigits_pos (n : Nat) : 0 < Lib.nDigits n := by
  by_cases h : n < 10
  · rw [Lib.nDigits_small h]; decide
  · rw [Lib.nDigits_big h]; omega
theorem nDigits_le : ∀ (k n : Nat), n < 10 ^ (k + 1) → Lib.nDigits n ≤ k + 1
  | k, n, h => (fix_pad k n h).1
theorem body_decZ (x : Int) : body (decZ x) = Lib.decDigits x.natAbs ∧ decide ((decZ x).head? = some 45) = decide (x < 0) := by
  have h3 := (dec_facts x.natAbs x.natAbs (Nat.le_refl _)).2.2
  by_cases h : x < 0
  · have e : decZ x = 45 :: Lib.decDigits x.natAbs := by unfold decZ; rw [if_pos h]; rfl
    rw [e]
    exact ⟨by unfold body; rw [List.head?_cons, if_pos rfl]; rfl, by rw [List.head?_cons, decide_eq_true rfl, decide_eq_true h]⟩
  · have e : decZ x = Lib.decDigits x.natAbs := by unfold decZ; rw [if_neg h]; rfl
    rw [e]
    exact ⟨by unfold body; rw [if_neg h3], by rw [decide_eq_false h3, decide_eq_false h]⟩
theorem nDigits_len {x : Int} (h : len x ≤ 20) : Lib.nDigits x.natAbs ≤ 181 := by
  refine nDigits_le 180 _ ?_
  have k1 := dg_lt BB2 x.natAbs
  have k2 : BB ^ (dg BB x.natAbs).length ≤ BB ^ 20 := Nat.pow_le_pow_right (by decide) h
  have k3 : BB ^ 20 = 10 ^ (9 * 20) := by rw [show BB = 10 ^ 9 from rfl, ← Nat.pow_mul]
  have k4 : 10 ^ (9 * 20) ≤ 10 ^ (180 + 1) := Nat.pow_le_pow_right (by decide) (by decide)
  exact Nat.lt_of_lt_of_le k1 (Nat.le_trans k2 (k3 ▸ k4))
theorem parse_text {x : Int} (h : len x ≤ 20) : okT (decZ x) = true ∧ numT (decZ x) = x := by
  obtain ⟨hb, hn⟩ := body_decZ x
  obtain ⟨h1, h2, -⟩ := dec_facts x.natAbs x.natAbs (Nat.le_refl _)
  have hl := nDigits_len h
  have ok : okT (decZ x) = true := by
    unfold okT
    rw [hb, h2, Lib.decDigits_length, decide_eq_true (nDigits_pos _), decide_eq_true (show Lib.nDigits x.natAbs ≤ 10000 by omega)]
    rfl
  refine ⟨ok, ?_⟩
  unfold numT
  rw [if_pos ok, hb, hn, h1]
  unfold signZ
  by_cases h : x < 0
  · rw [decide_eq_true h, if_pos rfl]; omega
  · rw [decide_eq_false h, if_neg (by decide)]; omega

theorem div_back {x y : Int} : x / y * y + x % y = x := by rw [Int.mul_comm]; exact Int.mul_ediv_add_emod x y
theorem rest_small {x y : Int} (hy : y ≠ 0) : 0 ≤ x % y ∧ ordZ (x % y) (y.natAbs : Int) = -1 := by
  have h1 := Int.emod_nonneg x hy
  have h2 := Int.emod_lt x hy
  refine ⟨h1, ?_⟩
  unfold ordZ
  rw [if_pos h2]
theorem gcd_divides (x y : Int) : x % ((Nat.gcd x.natAbs y.natAbs : Nat) : Int) = 0 ∧ y % ((Nat.gcd x.natAbs y.natAbs : Nat) : Int) = 0 :=
  ⟨Int.emod_eq_zero_of_dvd (Int.ofNat_dvd_left.2 (Nat.gcd_dvd_left _ _)), Int.emod_eq_zero_of_dvd (Int.ofNat_dvd_left.2 (Nat.gcd_dvd_right _ _))⟩
theorem len_neg (x : Int) : len (-x) = len x := by unfold len; rw [Int.natAbs_neg]
theorem len_le {x y : Int} (h : x.natAbs ≤ y.natAbs) : len x ≤ len y := dg_len_mono BB2 h
end Go.Proofs.YthpibilefdmemaaDoor
