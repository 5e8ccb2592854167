/- collatorref17.Never: by its contract. -/
import Derived.Test.YtphjffbldhhdiaaGreatDoorSxFits
namespace Go.Proofs.YtphjffbldhhdiaaGreatDoor
open Go.RowKit

/-- The sums of rows, taken so many times, are not too great. -/
structure NevSz (S : Sys) (y : Nat → Rat) : Prop where
  n : S.n ≤ 1000
  m : S.m ≤ 1000
  A : ∀ i c, i < S.m → c < S.n → Qr (S.A i c)
  M : ∀ i, i < S.m → Qr (S.most i)
  Y : ∀ i, i < S.m → Qr (y i)
  P : ∀ i c, i < S.m → c < S.n → Qr (y i * S.A i c)
  PM : ∀ i, i < S.m → Qr (y i * S.most i)
  T : ∀ i c, i ≤ S.m → c < S.n → Qr (sumR i fun i => y i * S.A i c)
  TM : ∀ i, i ≤ S.m → Qr (sumR i fun i => y i * S.most i)
theorem NevSz.of {S : Sys} {y : Nat → Rat} {k1 k2 k3 : Nat} (hn : S.n ≤ 1000) (hm : S.m ≤ 1000) (hA : ∀ i c, i < S.m → c < S.n → Qn k1 (S.A i c)) (hy : ∀ i, i < S.m → Qn k2 (y i)) (hM : ∀ i, i < S.m → Qn k3 (S.most i))
    (h1 : S.m * (k2 + k1 + 1) + 1 + k1 + k2 ≤ 100000000) (h3 : S.m * (k2 + k3 + 1) + 1 + k2 + k3 ≤ 100000000) : NevSz S y where
  n := hn
  m := hm
  A := fun i c hi hc => (hA i c hi hc).r (by omega)
  M := fun i hi => (hM i hi).r (by omega)
  Y := fun i hi => (hy i hi).r (by omega)
  P := fun i c hi hc => (Qn.mul (hy i hi) (hA i c hi hc)).r (by omega)
  PM := fun i hi => (Qn.mul (hy i hi) (hM i hi)).r (by omega)
  T := fun i c hi hc => by
    have h := sumR_size sizesQ (k := k2 + k1) (f := fun i => y i * S.A i c) i (fun k hk => Qn.mul (hy k (by omega)) (hA k c (by omega) hc))
    refine h.r ?_
    have : i * (k2 + k1 + 1) ≤ S.m * (k2 + k1 + 1) := Nat.mul_le_mul_right _ hi
    omega
  TM := fun i hi => by
    have h := sumR_size sizesQ (k := k2 + k3) (f := fun i => y i * S.most i) i (fun k hk => Qn.mul (hy k (by omega)) (hM k (by omega)))
    refine h.r ?_
    have : i * (k2 + k3 + 1) ≤ S.m * (k2 + k3 + 1) := Nat.mul_le_mul_right _ hi
    omega

end Go.Proofs.YtphjffbldhhdiaaGreatDoor
