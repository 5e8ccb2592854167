/- The plain law of long division: no program in sight. -/
import Derived.Test.YthpibilefdmemaaDoorRow
namespace Go.Proofs.YthpibilefdmemaaDoor

/-- The last two digits of a divisor, and what is before them. -/
theorem val_two {v : List Nat} {n : Nat} (hn : v.length = n + 2) (hd : Digs BB v) : ∃ v', v' < BB ^ n ∧ val BB v = v' + BB ^ n * (v[n]'(by omega) + BB * v[n + 1]'(by omega)) := by
  refine ⟨val BB (v.take n), ?_, ?_⟩
  · have := val_lt (hd.take n)
    rwa [List.length_take, Nat.min_eq_left (by omega)] at this
  · rw [val_take_drop BB v n (by omega), List.drop_eq_getElem_cons (show n < v.length by omega), List.drop_eq_getElem_cons (show n + 1 < v.length by omega), List.drop_of_length_le (by omega)]
    simp [val]
theorem val_three {u : List Nat} {n : Nat} (hn : u.length = n + 3) (hd : Digs BB u) : ∃ u', u' < BB ^ n ∧ val BB u = u' + BB ^ n * (u[n]'(by omega) + BB * (u[n + 1]'(by omega) + BB * u[n + 2]'(by omega))) := by
  refine ⟨val BB (u.take n), ?_, ?_⟩
  · have := val_lt (hd.take n)
    rwa [List.length_take, Nat.min_eq_left (by omega)] at this
  · rw [val_take_drop BB u n (by omega), List.drop_eq_getElem_cons (show n < u.length by omega), List.drop_eq_getElem_cons (show n + 1 < u.length by omega), List.drop_eq_getElem_cons (show n + 2 < u.length by omega), List.drop_of_length_le (by omega)]
    simp [val]

/-- The numbers of a guess: P is the base to the power of what stands before the last two digits. -/
structure Kn (P U V u' u2 u1 u0 v' v2 v1 : Nat) : Prop where
  hU : U = u' + P * (u2 + BB * (u1 + BB * u0))
  hV : V = v' + P * (v2 + BB * v1)
  hu' : u' < P
  hv' : v' < P
  hu2 : u2 < BB
  hu1 : u1 < BB
  hv2 : v2 < BB
  hv1 : 1 ≤ v1
  hlt : U < V * BB

section
variable {P U V u' u2 u1 u0 v' v2 v1 : Nat}
theorem Kn.vpos (h : Kn P U V u' u2 u1 u0 v' v2 v1) : 0 < V := by
  have hP : 0 < P := Nat.lt_of_le_of_lt (Nat.zero_le _) h.hv'
  rw [h.hV]
  have : P * 1 ≤ P * (v2 + BB * v1) := Nat.mul_le_mul_left _ (by have := h.hv1; have : 1 * 1 ≤ BB * v1 := Nat.mul_le_mul (by rw [BB_eq]; omega) this; omega)
  omega
/-- The first digits stand as the numbers do. -/
theorem Kn.top (h : Kn P U V u' u2 u1 u0 v' v2 v1) : u0 * BB + u1 < v1 * BB + BB := by
  have hP : 0 < P := Nat.lt_of_le_of_lt (Nat.zero_le _) h.hv'
  have h1 : P * (BB * (BB * u0)) ≤ U := by
    rw [h.hU]
    have : P * (BB * (BB * u0)) ≤ P * (u2 + BB * (u1 + BB * u0)) := Nat.mul_le_mul_left _ (by rw [Nat.mul_add]; omega)
    omega
  have h2 : V * BB < P * (BB * (BB * (v1 + 1))) := by
    have : V < P * (BB * (v1 + 1)) := by
      rw [h.hV]
      have e : P * (v2 + BB * v1) + P ≤ P * (BB * (v1 + 1)) := by
        rw [← Nat.mul_succ]
        apply Nat.mul_le_mul_left
        have := h.hv2
        rw [Nat.mul_add]
        omega
      have := h.hv'
      omega
    refine Nat.lt_of_lt_of_eq (Nat.mul_lt_mul_of_pos_right this (by rw [BB_eq]; omega)) ?_
    rw [Nat.mul_assoc P, Nat.mul_assoc BB, Nat.mul_comm (v1 + 1) BB]
  have h3 : u0 < v1 + 1 := by
    have : P * (BB * (BB * u0)) < P * (BB * (BB * (v1 + 1))) := by have := h.hlt; omega
    have h4 := Nat.lt_of_mul_lt_mul_left this
    have h5 := Nat.lt_of_mul_lt_mul_left h4
    exact Nat.lt_of_mul_lt_mul_left h5
  have : u0 * BB ≤ v1 * BB := Nat.mul_le_mul_right _ (by omega)
  have := h.hu1
  omega
/-- What is told to be too much is. -/
theorem Kn.over (h : Kn P U V u' u2 u1 u0 v' v2 v1) {g r : Nat} (hg : g * v1 + r = u0 * BB + u1) (ho : r * BB + u2 < g * v2) : U < g * V := by
  have e1 : g * (v2 + BB * v1) = g * v2 + (g * v1) * BB := by rw [Nat.mul_add, Nat.mul_comm BB v1, ← Nat.mul_assoc]
  have e2 : (g * v1) * BB + r * BB = u0 * BB * BB + u1 * BB := by rw [← Nat.add_mul, hg, Nat.add_mul]
  have h1 : u2 + BB * (u1 + BB * u0) + 1 ≤ g * (v2 + BB * v1) := by
    rw [e1, Nat.mul_add, Nat.mul_comm BB u1, Nat.mul_comm BB u0, Nat.mul_comm BB (u0 * BB)]
    omega
  have h2 : P * (u2 + BB * (u1 + BB * u0) + 1) ≤ P * (g * (v2 + BB * v1)) := Nat.mul_le_mul_left _ h1
  have e3 : g * V = g * v' + P * (g * (v2 + BB * v1)) := by rw [h.hV, Nat.mul_add, ← Nat.mul_assoc, Nat.mul_comm g P, Nat.mul_assoc]
  rw [Nat.mul_add, Nat.mul_one] at h2
  have := h.hu'
  rw [h.hU, e3]
  omega
/-- The first guess is not too little. -/
theorem Kn.first (h : Kn P U V u' u2 u1 u0 v' v2 v1) {q : Nat} (hq : q * V ≤ U) : q * v1 ≤ u0 * BB + u1 := by
  have hP : 0 < P := Nat.lt_of_le_of_lt (Nat.zero_le _) h.hv'
  have h1 : P * (BB * (q * v1)) ≤ U := by
    refine Nat.le_trans ?_ hq
    rw [h.hV, Nat.mul_add]
    have : P * (BB * (q * v1)) ≤ q * (P * (v2 + BB * v1)) := by
      rw [← Nat.mul_assoc q, Nat.mul_comm q P, Nat.mul_assoc]
      apply Nat.mul_le_mul_left
      rw [Nat.mul_add, ← Nat.mul_assoc q BB, Nat.mul_comm q BB, Nat.mul_assoc]
      omega
    omega
  have h2 : U < P * (BB * (u0 * BB + u1 + 1)) := by
    rw [h.hU]
    have e : P * (u2 + BB * (u1 + BB * u0)) + P ≤ P * (BB * (u0 * BB + u1 + 1)) := by
      rw [← Nat.mul_succ]
      apply Nat.mul_le_mul_left
      have := h.hu2
      rw [Nat.mul_add, Nat.mul_add, Nat.mul_add, Nat.mul_comm BB (u0 * BB), Nat.mul_comm u0 BB, Nat.mul_comm BB (BB * u0)]
      omega
    have := h.hu'
    omega
  have h3 := Nat.lt_of_mul_lt_mul_left (Nat.lt_of_le_of_lt h1 h2)
  have h4 := Nat.lt_of_mul_lt_mul_left h3
  omega
/-- What is no longer told to be too much is at most one too much. -/
theorem Kn.near (h : Kn P U V u' u2 u1 u0 v' v2 v1) {g r : Nat} (hg : g * v1 + r = u0 * BB + u1) (hgB : g < BB) (ho : g * v2 ≤ r * BB + u2) : (g - 1) * V ≤ U := by
  have e1 : g * (v2 + BB * v1) = g * v2 + (g * v1) * BB := by rw [Nat.mul_add, Nat.mul_comm BB v1, ← Nat.mul_assoc]
  have e2 : (g * v1) * BB + r * BB = u0 * BB * BB + u1 * BB := by rw [← Nat.add_mul, hg, Nat.add_mul]
  have h1 : g * (v2 + BB * v1) ≤ u2 + BB * (u1 + BB * u0) := by
    rw [e1, Nat.mul_add, Nat.mul_comm BB u1, Nat.mul_comm BB u0, Nat.mul_comm BB (u0 * BB)]
    omega
  have h2 : P * (g * (v2 + BB * v1)) ≤ P * (u2 + BB * (u1 + BB * u0)) := Nat.mul_le_mul_left _ h1
  have e3 : g * V = g * v' + P * (g * (v2 + BB * v1)) := by rw [h.hV, Nat.mul_add, ← Nat.mul_assoc, Nat.mul_comm g P, Nat.mul_assoc]
  have h3 : g * v' ≤ V := by
    have h4 : g * v' ≤ BB * P := Nat.mul_le_mul (by omega) (by have := h.hv'; omega)
    have h5 : P * (BB * 1) ≤ P * (v2 + BB * v1) := Nat.mul_le_mul_left _ (by
      have : BB * 1 ≤ BB * v1 := Nat.mul_le_mul_left _ h.hv1
      omega)
    rw [h.hV]
    rw [Nat.mul_comm BB P] at h4
    rw [Nat.mul_one] at h5
    omega
  rw [Nat.sub_mul, Nat.one_mul]
  have := h.hU
  omega
/-- Where what is left is the base or more, the guess is right. -/
theorem Kn.far (h : Kn P U V u' u2 u1 u0 v' v2 v1) {g r : Nat} (hg : g * v1 + r = u0 * BB + u1) (hgB : g < BB) (hr : BB ≤ r) : g * V ≤ U := by
  have h1 : v' + P * v2 ≤ P * BB := by
    have : P * (v2 + 1) ≤ P * BB := Nat.mul_le_mul_left _ h.hv2
    rw [Nat.mul_add] at this
    have := h.hv'
    omega
  have e1 : g * V = g * (v' + P * v2) + P * (BB * (g * v1)) := by
    rw [h.hV, Nat.mul_add, Nat.mul_add, Nat.mul_add, Nat.mul_add, ← Nat.mul_assoc g P (BB * v1), Nat.mul_comm g P, Nat.mul_assoc P g, ← Nat.mul_assoc g BB, Nat.mul_comm g BB, Nat.mul_assoc BB g]
    omega
  have h2 : g * (v' + P * v2) ≤ BB * (P * BB) := Nat.mul_le_mul (by omega) h1
  have h3 : P * (BB * (g * v1)) + P * (BB * BB) ≤ P * (BB * (u0 * BB + u1)) := by
    rw [← Nat.mul_add, ← Nat.mul_add]
    exact Nat.mul_le_mul_left _ (Nat.mul_le_mul_left _ (by omega))
  have h4 : P * (BB * (u0 * BB + u1)) ≤ U := by
    rw [h.hU]
    have : P * (BB * (u0 * BB + u1)) ≤ P * (u2 + BB * (u1 + BB * u0)) := Nat.mul_le_mul_left _ (by
      rw [Nat.mul_comm u0 BB, Nat.add_comm (BB * u0) u1]; omega)
    omega
  have e2 : BB * (P * BB) = P * (BB * BB) := by rw [← Nat.mul_assoc, Nat.mul_comm BB P, Nat.mul_assoc]
  omega
end
end Go.Proofs.YthpibilefdmemaaDoor
