/- The plain law of long division, second part: a round, and all rounds. -/
import Derived.Test.YthpibilefdmemaaDoorGuess
namespace Go.Proofs.YthpibilefdmemaaDoor

theorem take_same {U U' : List Nat} {j : Nat} (h : ∀ k, k < j → U'[k]? = U[k]?) : U'.take j = U.take j := by
  apply List.ext_getElem?
  intro k
  rw [List.getElem?_take, List.getElem?_take]
  split
  · rename_i hk; exact h k hk
  · rfl
theorem drop_same {U U' : List Nat} {j : Nat} (h : ∀ k, j ≤ k → U'[k]? = U[k]?) : U'.drop j = U.drop j := by
  apply List.ext_getElem?
  intro k
  rw [List.getElem?_drop, List.getElem?_drop]
  exact h _ (by omega)
/-- Where the later digits come to less than a power, the first ones are all. -/
theorem drop_zero_of {ds : List Nat} {n : Nat} (h : val BB ds < BB ^ n) : val BB (ds.drop n) = 0 := by
  rcases Nat.lt_or_ge ds.length n with hl | hl
  · rw [List.drop_of_length_le (by omega)]; rfl
  · rw [val_take_drop BB ds n hl] at h
    rcases Nat.eq_zero_or_pos (val BB (ds.drop n)) with h0 | h0
    · exact h0
    · have : BB ^ n * 1 ≤ BB ^ n * val BB (ds.drop n) := Nat.mul_le_mul_left _ h0
      omega
theorem val_at {ds : List Nat} {j : Nat} (hj : j < ds.length) : val BB (ds.drop j) = ds[j] + BB * val BB (ds.drop (j + 1)) := by
  rw [List.drop_eq_getElem_cons hj]; rfl

/-- A round of long division has been done. -/
structure Rnd (U U' : List Nat) (j Vn : Nat) : Prop where
  len : U'.length = U.length
  digs : Digs BB U'
  val_ : val BB U' + BB ^ j * (Vn * (val BB (U.drop j) / Vn)) = val BB U
  left : val BB (U'.drop j) = val BB (U.drop j) % Vn

theorem Rnd.of {U U' : List Nat} {j Vn : Nat} (hj : j ≤ U.length) (hlen : U'.length = U.length) (hd : Digs BB U') (hr : ∀ k, k < j → U'[k]? = U[k]?) (hl : val BB (U'.drop j) + Vn * (val BB (U.drop j) / Vn) = val BB (U.drop j)) : Rnd U U' j Vn := by
  refine ⟨hlen, hd, ?_, ?_⟩
  · rw [val_take_drop BB U' j (by omega), val_take_drop BB U j hj, take_same hr, ← hl, Nat.mul_add]
    have e : (val BB (U'.drop j) + Vn * (val BB (U.drop j) / Vn)) = val BB (U.drop j) := hl
    rw [e]
    omega
  · have := Nat.div_add_mod (val BB (U.drop j)) Vn
    omega

section
variable {U U' V : List Nat} {j n g c br : Nat}
theorem AwSt.drop (h : AwSt U V j g (n + 1) (n + 1) U' c br) (hV : V.length = n) (hj : j ≤ U.length) : val BB (U.drop j) + BB ^ (n + 1) * (br + c) = val BB (U'.drop j) + val BB V * g := by
  have hv := h.val_
  rw [List.take_of_length_le (by omega), val_take_drop BB U j hj, val_take_drop BB U' j (by rw [h.len]; exact hj), take_same (fun k hk => h.rest k (.inl hk)), Nat.pow_add, Nat.mul_assoc] at hv
  have hp : 0 < BB ^ j := Nat.pow_pos (by rw [BB_eq]; omega)
  apply Nat.eq_of_mul_eq_mul_left hp
  generalize BB ^ (n + 1) * (br + c) = R at hv ⊢
  generalize BB ^ j = Z at hv ⊢
  rw [Nat.mul_add, Nat.mul_add]
  omega
theorem AwSt.top (h : AwSt U V j g (n + 1) (n + 1) U' c br) (hD : val BB (U.drop j) < BB ^ (n + 1)) (hl : j + n + 1 ≤ U.length) : val BB (U'.drop j) < BB ^ (n + 1) := by
  have h0 := drop_zero_of hD
  rw [List.drop_drop] at h0
  have h1 : val BB (U'.drop (j + (n + 1))) = 0 := by rw [drop_same (fun k hk => h.rest k (.inr hk))]; exact h0
  rw [val_take_drop BB (U'.drop j) (n + 1) (by rw [List.length_drop, h.len]; omega), List.drop_drop, h1]
  have := val_lt ((h.digs.drop j).take (n + 1))
  rw [List.length_take, List.length_drop, h.len, Nat.min_eq_left (by omega)] at this
  rw [Nat.mul_zero, Nat.add_zero]
  exact this
theorem AwSt.nocar (h : AwSt U V j g (n + 1) (n + 1) U' c br) (hV : V.length = n) (hVn : val BB V < BB ^ n) (hg : g < BB) : c = 0 := by
  have hc := h.cv
  rw [List.take_of_length_le (by omega)] at hc
  have h1 : val BB V * g ≤ BB ^ n * g := Nat.mul_le_mul_right _ (by omega)
  have h2 : BB ^ n * g < BB ^ n * BB := Nat.mul_lt_mul_of_pos_left hg (Nat.pow_pos (by rw [BB_eq]; omega))
  rcases Nat.eq_zero_or_pos c with h0 | h0
  · exact h0
  · have : BB ^ (n + 1) * 1 ≤ BB ^ (n + 1) * c := Nat.mul_le_mul_left _ h0
    rw [← Nat.pow_succ] at h2
    generalize BB ^ (n + 1) = R at *
    generalize BB ^ n = Z at *
    omega
/-- The guess was right. -/
theorem AwSt.good (h : AwSt U V j g (n + 1) (n + 1) U' c 0) (hV : V.length = n) (hVn : val BB V < BB ^ n) (hl : j + n + 1 ≤ U.length) (hg : g < BB) (hq : val BB (U.drop j) / val BB V ≤ g) (hp : 0 < val BB V) : g = val BB (U.drop j) / val BB V ∧ Rnd U U' j (val BB V) := by
  have hc := h.nocar hV hVn hg
  subst hc
  have hd := h.drop hV (by omega)
  rw [Nat.zero_add, Nat.mul_zero, Nat.add_zero] at hd
  have hgq : g ≤ val BB (U.drop j) / val BB V := (Nat.le_div_iff_mul_le hp).2 (by rw [Nat.mul_comm]; omega)
  have he : g = val BB (U.drop j) / val BB V := by omega
  refine ⟨he, Rnd.of (by omega) h.len h.digs (fun k hk => h.rest k (.inl hk)) ?_⟩
  rw [← he]
  omega
/-- The guess was one too much. -/
theorem AwSt.bad {U'' : List Nat} {c2 : Nat} (h : AwSt U V j g (n + 1) (n + 1) U' c 1) (h2 : BkSt U' V j (n + 1) (n + 1) U'' c2) (hV : V.length = n) (hVn : val BB V < BB ^ n) (hl : j + n + 1 ≤ U.length) (hD : val BB (U.drop j) < BB ^ (n + 1)) (hg : g < BB) (hq : g ≤ val BB (U.drop j) / val BB V + 1) (hp : 0 < val BB V) :
    g = val BB (U.drop j) / val BB V + 1 ∧ Rnd U U'' j (val BB V) := by
  have hc := h.nocar hV hVn hg
  subst hc
  have hd := h.drop hV (by omega)
  have ht := h.top hD hl
  rw [Nat.add_zero, Nat.mul_one] at hd
  have hgt : val BB (U.drop j) < val BB V * g := by
    generalize BB ^ (n + 1) = R at hd ht
    omega
  have hgq : val BB (U.drop j) / val BB V < g := (Nat.div_lt_iff_lt_mul hp).2 (by rw [Nat.mul_comm]; exact hgt)
  have he : g = val BB (U.drop j) / val BB V + 1 := by omega
  have hv2 := h2.val_
  rw [List.take_of_length_le (by omega), val_take_drop BB U' j (by rw [h.len]; omega), val_take_drop BB U'' j (by rw [h2.len, h.len]; omega), take_same (fun k hk => h2.rest k (.inl hk)), Nat.pow_add, Nat.mul_assoc] at hv2
  have hpj : 0 < BB ^ j := Nat.pow_pos (by rw [BB_eq]; omega)
  have hd2 : val BB (U'.drop j) + val BB V = val BB (U''.drop j) + BB ^ (n + 1) * c2 := by
    apply Nat.eq_of_mul_eq_mul_left hpj
    generalize BB ^ (n + 1) * c2 = R at hv2 ⊢
    generalize BB ^ j = Z at hv2 ⊢
    rw [Nat.mul_add, Nat.mul_add]
    omega
  have ht2 : val BB (U''.drop j) < BB ^ (n + 1) := by
    have h0 := drop_zero_of hD
    rw [List.drop_drop] at h0
    have h1 : val BB (U''.drop (j + (n + 1))) = 0 := by
      rw [drop_same (fun k hk => h2.rest k (.inr hk)), drop_same (fun k hk => h.rest k (.inr hk))]; exact h0
    rw [val_take_drop BB (U''.drop j) (n + 1) (by rw [List.length_drop, h2.len, h.len]; omega), List.drop_drop, h1]
    have := val_lt ((h2.digs.drop j).take (n + 1))
    rw [List.length_take, List.length_drop, h2.len, h.len, Nat.min_eq_left (by omega)] at this
    rw [Nat.mul_zero, Nat.add_zero]
    exact this
  have hdm := Nat.div_mul_le_self (val BB (U.drop j)) (val BB V)
  have hge : val BB V * g = val BB V * (val BB (U.drop j) / val BB V) + val BB V := by rw [he, Nat.mul_add, Nat.mul_one]
  rw [Nat.mul_comm] at hdm
  have hvv := h2.digs
  clear hv2
  have hcar := h2.car
  generalize BB ^ (n + 1) = R at *
  have hc2 : c2 = 1 := by
    have := hcar
    rcases Nat.eq_zero_or_pos c2 with h0 | h0
    · subst h0; omega
    · omega
  subst hc2
  refine ⟨he, Rnd.of (by omega) (h2.len.trans h.len) h2.digs (fun k hk => (h2.rest k (.inl hk)).trans (h.rest k (.inl hk))) ?_⟩
  omega
end

/-- So many places of the quotient are told. -/
structure LgSt (At Vn mm k : Nat) (U out : List Nat) : Prop where
  dU : Digs BB U
  len : out.length = mm
  digs : Digs BB out
  val_ : At = val BB U + Vn * (BB ^ k * val BB (out.drop k))
  left : val BB (U.drop k) < Vn

theorem LgSt.next {At Vn mm j : Nat} {U U' out : List Nat} (h : LgSt At Vn mm (j + 1) U out) (hj : j < mm) (hp : 0 < Vn) (hr : Rnd U U' j Vn) (hq : val BB (U.drop j) / Vn < BB) : LgSt At Vn mm j U' (out.set j (val BB (U.drop j) / Vn)) := by
  have hjo : j < out.length := by rw [h.len]; exact hj
  refine ⟨hr.digs, by simp [h.len], h.digs.set hq, ?_, by rw [hr.left]; exact Nat.mod_lt _ hp⟩
  have e1 : (out.set j (val BB (U.drop j) / Vn)).drop j = val BB (U.drop j) / Vn :: out.drop (j + 1) := by
    rw [List.drop_eq_getElem_cons (by simpa using hjo), List.getElem_set_self, List.drop_set_of_lt (by omega)]
  rw [e1, h.val_, ← hr.val_]
  simp only [val]
  rw [Nat.mul_add (BB ^ j), Nat.mul_add Vn, Nat.pow_succ, Nat.mul_assoc (BB ^ j) BB, ← Nat.mul_assoc Vn (BB ^ j) (val BB (U.drop j) / Vn), Nat.mul_comm Vn (BB ^ j), Nat.mul_assoc (BB ^ j) Vn]
  omega
end Go.Proofs.YthpibilefdmemaaDoor
