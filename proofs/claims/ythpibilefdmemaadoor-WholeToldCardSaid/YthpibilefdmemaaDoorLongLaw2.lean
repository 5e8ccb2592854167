/- The plain law of long division, third part: its beginning; the numbers of a guess. -/
import Derived.Test.YthpibilefdmemaaDoorLongLaw
namespace Go.Proofs.YthpibilefdmemaaDoor
open Go.RowKit

theorem no_carry {v R c x : Nat} (h : v + R * c = x) (hx : x < R) : c = 0 ∧ v = x := by
  rcases Nat.eq_zero_or_pos c with h0 | h0
  · subst h0; rw [Nat.mul_zero] at h; omega
  · have : R * 1 ≤ R * c := Nat.mul_le_mul_left _ h0
    omega

/-- The numbers alone: P1 is the base to one power less than the divisor has digits, PA that of the first number, PM that of the quotient. -/
theorem start_nums {a b v u bt bl t cU cV P1 PA PM d tk : Nat} (hA : a < PA) (hbv : b = bl + P1 * bt) (hbl : bl < P1) (hb0 : 1 ≤ bt) (ht1 : 1 ≤ t) (ht9 : t < BB) (htm : t * (bt + 1) ≤ BB) (hvU : u + PA * BB * cU = a * t) (hvV : v + P1 * BB * cV = b * t) (hPM : PM * P1 = PA) (hud : u = tk + PM * d) :
    v = b * t ∧ v < P1 * BB ∧ P1 ≤ v ∧ u = a * t ∧ d < v := by
  have hP1 : 0 < P1 := by omega
  have hB1 : b < P1 * (bt + 1) := by rw [hbv, Nat.mul_add, Nat.mul_one]; omega
  have hB2 : P1 ≤ b := by
    rw [hbv]
    have : P1 * 1 ≤ P1 * bt := Nat.mul_le_mul_left _ hb0
    omega
  have hBt2 : b * t < P1 * BB := by
    have h1 : b * t < P1 * (bt + 1) * t := Nat.mul_lt_mul_of_pos_right hB1 (by omega)
    have h2 : P1 * (bt + 1) * t ≤ P1 * BB := by
      rw [Nat.mul_assoc]
      apply Nat.mul_le_mul_left
      rw [Nat.mul_comm]
      exact htm
    exact Nat.lt_of_lt_of_le h1 h2
  obtain ⟨-, hV⟩ := no_carry hvV hBt2
  have hA1 : a * t < PA * BB := Nat.mul_lt_mul'' hA ht9
  obtain ⟨-, hU⟩ := no_carry hvU hA1
  have hVge : P1 * t ≤ v := by rw [hV]; exact Nat.mul_le_mul_right _ hB2
  refine ⟨hV, by rw [hV]; exact hBt2, ?_, hU, ?_⟩
  · have : P1 * 1 ≤ P1 * t := Nat.mul_le_mul_left _ ht1
    omega
  · have h2 : PM * d < PM * (P1 * t) := by
      rw [← Nat.mul_assoc, hPM]
      have h3 : a * t < PA * t := Nat.mul_lt_mul_of_pos_right hA (by omega)
      omega
    have h4 := Nat.lt_of_mul_lt_mul_left h2
    omega

theorem long_start {A B U0 V : List Nat} {m t cU cV mm : Nat} (dA : Digs BB A) (cB : Canon BB B) (hBl : B.length = m + 2) (hmm : mm + (m + 1) = A.length) (hb0 : 1 ≤ B[m + 1]'(by omega)) (ht1 : 1 ≤ t) (ht9 : t < BB) (htm : t * (B[m + 1]'(by omega) + 1) ≤ BB)
    (lU0 : U0.length = A.length + 1) (dU0 : Digs BB U0) (hvU0 : Hid (val BB U0 + BB ^ (A.length + 1) * cU = val BB (A.take (A.length + 1)) * t)) (hvV : Hid (val BB V + BB ^ (m + 2) * cV = val BB (B.take (m + 2)) * t)) :
    val BB V = val BB B * t ∧ Hid (val BB V < BB ^ (m + 2)) ∧ Hid (BB ^ (m + 1) ≤ val BB V) ∧ LgSt (val BB A * t) (val BB V) mm mm U0 (List.replicate mm 0) := by
  have l1 : min (m + 1) B.length = m + 1 := by omega
  have l2 : m + 1 < B.length := by omega
  have l3 : B.length ≤ m + 1 + 1 := by omega
  have l4 : mm ≤ U0.length := by omega
  have l5 : A.length ≤ A.length + 1 := by omega
  have l6 : B.length ≤ m + 2 := by omega
  have hBv : val BB B = val BB (B.take (m + 1)) + BB ^ (m + 1) * B[m + 1] := by
    rw [val_take_drop BB B (m + 1) (Nat.le_of_lt l2), List.drop_eq_getElem_cons l2, List.drop_of_length_le l3]
    simp [val]
  have hBt := val_lt (cB.1.take (m + 1))
  rw [List.length_take, l1] at hBt
  have hU := hvU0.out
  have hV := hvV.out
  rw [List.take_of_length_le l5, Nat.pow_succ] at hU
  rw [List.take_of_length_le l6, Nat.pow_succ] at hV
  have hPM : BB ^ mm * BB ^ (m + 1) = BB ^ A.length := by rw [← Nat.pow_add, hmm]
  obtain ⟨h1, h2, h3, h4, h5⟩ := start_nums (val_lt dA) hBv hBt hb0 ht1 ht9 htm hU hV hPM (val_take_drop BB U0 mm l4)
  refine ⟨h1, h2, h3, ⟨dU0, List.length_replicate, ?_, ?_, h5⟩⟩
  · intro d hd
    have := List.eq_of_mem_replicate hd
    rw [this, BB_eq]; decide
  · rw [h4, List.drop_of_length_le (by rw [List.length_replicate]; exact Nat.le_refl _)]
    simp [val]

/-- The numbers of a guess in a round. -/
theorem round_nums {u d v P1 D : Nat} (hu : u < BB) (hD : D = u + BB * d) (hleft : d < v) (hV1 : v < P1) : D < v * BB ∧ D < P1 * BB := by
  have h1 : D < v * BB := by
    have : BB * (d + 1) ≤ BB * v := Nat.mul_le_mul_left _ hleft
    rw [Nat.mul_add, Nat.mul_one] at this
    rw [hD, Nat.mul_comm v]
    omega
  exact ⟨h1, Nat.lt_trans h1 (Nat.mul_lt_mul_of_pos_right hV1 (by rw [BB_eq]; decide))⟩
theorem top_nums {v v' v2 v1 Z : Nat} (hv' : v' < Z) (hv2 : v2 < BB) (ev : v = v' + Z * (v2 + BB * v1)) (h : Z * BB ≤ v) : 1 ≤ v1 := by
  rcases Nat.eq_zero_or_pos v1 with h0 | h0
  · rw [h0, Nat.mul_zero, Nat.add_zero] at ev
    have h3 : Z * (v2 + 1) ≤ Z * BB := Nat.mul_le_mul_left _ hv2
    rw [Nat.mul_add, Nat.mul_one] at h3
    omega
  · exact h0

theorem round_kn {U V : List Nat} {j m la : Nat} (dU : Digs BB U) (dV : Digs BB V) (lU : U.length = la + 1) (lV : V.length = m + 2) (hj : j + (m + 3) ≤ la + 1) (hleft : val BB (U.drop (j + 1)) < val BB V) (hV1 : Hid (val BB V < BB ^ (m + 2))) (hV2 : Hid (BB ^ (m + 1) ≤ val BB V)) :
    val BB (U.drop j) < val BB V * BB ∧ Hid (val BB (U.drop j) < BB ^ (m + 3)) ∧ ∃ P u' v', Kn P (val BB (U.drop j)) (val BB V) u' (U[j + m]'(by omega)) (U[j + m + 1]'(by omega)) (U[j + m + 2]'(by omega)) v' (V[m]'(by omega)) (V[m + 1]'(by omega)) := by
  have l1 : j < U.length := by omega
  have l2 : m + 3 ≤ (U.drop j).length := by rw [List.length_drop]; omega
  have l3 : ((U.drop j).take (m + 3)).length = m + 3 := by rw [List.length_take, Nat.min_eq_left l2]
  have k1 : m < V.length := by omega
  have k2 : m + 1 < V.length := by omega
  have k3 : j + m < U.length := by omega
  have k4 : j + m + 1 < U.length := by omega
  have k5 : j + m + 2 < U.length := by omega
  obtain ⟨h1, h2'⟩ := round_nums (dU.at l1) (val_at l1) hleft hV1.out
  have h2 : val BB (U.drop j) < BB ^ (m + 3) := by rw [Nat.pow_succ]; exact h2'
  refine ⟨h1, hide h2, ?_⟩
  have hz := drop_zero_of h2
  have hw : val BB ((U.drop j).take (m + 3)) = val BB (U.drop j) := by
    have h := val_take_drop BB (U.drop j) (m + 3) l2
    rw [hz, Nat.mul_zero, Nat.add_zero] at h
    exact h.symm
  obtain ⟨u', hu', eu⟩ := val_three (u := (U.drop j).take (m + 3)) (n := m) l3 ((dU.drop j).take _)
  obtain ⟨v', hv', ev⟩ := val_two (v := V) (n := m) lV dV
  rw [hw] at eu
  simp only [List.getElem_take, List.getElem_drop] at eu
  have hV2' := hV2.out
  rw [Nat.pow_succ] at hV2'
  exact ⟨BB ^ m, u', v', ⟨eu, ev, hu', hv', dU.at k3, dU.at k4, dV.at k1, top_nums hv' (dV.at k1) ev hV2', h1⟩⟩
end Go.Proofs.YthpibilefdmemaaDoor
