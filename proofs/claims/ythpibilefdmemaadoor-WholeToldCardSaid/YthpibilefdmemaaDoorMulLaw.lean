/- The plain law of a product by hand: no program in sight. -/
import Derived.Test.YthpibilefdmemaaDoorRow
namespace Go.Proofs.YthpibilefdmemaaDoor

/-- So many rows of a product are in. -/
structure MRow (x y : List Nat) (i : Nat) (out : List Nat) : Prop where
  len : out.length = x.length + y.length
  digs : Digs BB out
  val_ : val BB out = val BB (x.take i) * val BB y
  zero : ∀ k, i + y.length ≤ k → k < out.length → out[k]? = some 0
/-- Within a row: so many places are in; what is carried. -/
structure IRow (y : List Nat) (i : Nat) (a : Nat) (o0 : List Nat) (j : Nat) (out : List Nat) (c : Nat) : Prop where
  len : out.length = o0.length
  digs : Digs BB out
  car : c < BB
  val_ : val BB out + BB ^ (i + j) * c = val BB o0 + BB ^ i * (a * val BB (y.take j))
  rest : ∀ k, i + j ≤ k → out[k]? = o0[k]?

theorem MRow.start (x y : List Nat) : MRow x y 0 (List.replicate (x.length + y.length) 0) := by
  refine ⟨by simp, ?_, by simp [val, val_zeros], fun k _ hk => by simp at hk; simp [hk]⟩
  intro d hd
  have := List.eq_of_mem_replicate hd
  rw [this, BB_eq]; omega
theorem IRow.start {y : List Nat} {i a : Nat} {o0 : List Nat} (h : Digs BB o0) : IRow y i a o0 0 o0 0 :=
  ⟨rfl, h, by rw [BB_eq]; omega, by simp [val], fun _ _ => rfl⟩

theorem IRow.next {y : List Nat} {i a j c q r : Nat} {o0 out : List Nat} (h : IRow y i a o0 j out c) (hj : j < y.length) (ho : i + j < out.length) (hq : c + (out[i + j] + a * y[j]) = BB * q + r) (hr : r < BB) (hq1 : q < BB) :
    IRow y i a o0 (j + 1) (out.set (i + j) r) q := by
  refine ⟨by simp [h.len], h.digs.set hr, hq1, ?_, ?_⟩
  · have hs := val_set (b := BB) out (i + j) r ho
    have hv := h.val_
    have hy : val BB (y.take (j + 1)) = val BB (y.take j) + BB ^ j * y[j] := by
      rw [List.take_succ_eq_append_getElem hj, val_snoc, List.length_take, Nat.min_eq_left (by omega)]
    rw [hy]
    have e1 : BB ^ i * (a * (val BB (y.take j) + BB ^ j * y[j])) = BB ^ i * (a * val BB (y.take j)) + BB ^ (i + j) * (a * y[j]) := by
      rw [Nat.mul_add, Nat.mul_add, Nat.pow_add, Nat.mul_assoc]
      congr 1
      rw [← Nat.mul_assoc a, Nat.mul_comm a, Nat.mul_assoc]
    have e2 : BB ^ (i + j) * (c + (out[i + j] + a * y[j])) = BB ^ (i + (j + 1)) * q + BB ^ (i + j) * r := by
      rw [hq, Nat.mul_add, ← Nat.add_assoc i j 1, Nat.pow_succ, Nat.mul_assoc]
    rw [Nat.mul_add, Nat.mul_add] at e2
    rw [e1]
    omega
  · intro k hk
    rw [List.getElem?_set_ne (by omega)]
    exact h.rest k (by omega)

theorem MRow.next {x y : List Nat} {i c : Nat} {o0 out : List Nat} (h : MRow x y i o0) (hi : i < x.length) (hI : IRow y i x[i] o0 y.length out c) : MRow x y (i + 1) (out.set (i + y.length) c) := by
  have hlen := hI.len
  have hl0 := h.len
  have ho : i + y.length < out.length := by omega
  refine ⟨by simp [hlen, hl0], hI.digs.set hI.car, ?_, ?_⟩
  · have hz : out[i + y.length] = 0 := by
      have h1 := hI.rest (i + y.length) (Nat.le_refl _)
      rw [h.zero _ (Nat.le_refl _) (by omega), List.getElem?_eq_getElem ho] at h1
      exact Option.some.inj h1
    have hs := val_set (b := BB) out (i + y.length) c ho
    have hv := hI.val_
    rw [hz] at hs
    rw [List.take_length] at hv
    have hx : val BB (x.take (i + 1)) = val BB (x.take i) + BB ^ i * x[i] := by
      rw [List.take_succ_eq_append_getElem hi, val_snoc, List.length_take, Nat.min_eq_left (by omega)]
    rw [hx, Nat.add_mul, Nat.mul_assoc, ← h.val_]
    omega
  · intro k hk hkl
    rw [List.getElem?_set_ne (by omega), hI.rest k (by omega)]
    exact h.zero k (by omega) (by simp at hkl; omega)
theorem MRow.done {x y out : List Nat} {i : Nat} (h : MRow x y i out) (hi : x.length ≤ i) : val BB out = val BB x * val BB y := by
  rw [h.val_, List.take_of_length_le hi]
end Go.Proofs.YthpibilefdmemaaDoor
