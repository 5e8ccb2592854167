/- What the laws of collatorlaw18 ask of rows: plain. -/
import Derived.Test.YtphjffbldhhdiaaLiPlain
namespace Go.Proofs.Ytphjffbldhhdiaa

/-- Unknowns that stand for others that are so many less. -/
theorem row_shift {S S' : ISys} {b p : Nat → Int} {i : Nat} (hn : S'.n = S.n) (hA : ∀ c, c < S.n → S'.A i c = S.A i c) (hM : ((S'.most i : Int) : Rat) = ((S.most i : Int) : Rat) + sumR S.n fun c => ((S.A i c : Int) : Rat) * ((b c : Int) : Rat)) : S'.Row (fun c => p c + b c) i ↔ S.Row p i := by
 unfold ISys.Row
 rw [hn, hM, sumR_congr (g := fun c => ((S.A i c : Int) : Rat) * ((p c : Int) : Rat) + ((S.A i c : Int) : Rat) * ((b c : Int) : Rat)) fun c hc => by
  rw [hA c hc, Rat.intCast_add]; grind, sumR_add]
 constructor
 ·intro h; grind
 ·intro h; grind
/-- Rows that just hold. -/
theorem row_tight {S : ISys} {V : Nat → Int} {i : Nat} (hM : ((S.most i : Int) : Rat) = sumR S.n fun c => ((S.A i c : Int) : Rat) * ((V c : Int) : Rat)) : S.Row V i := by
 unfold ISys.Row
 rw [hM]
 exact Rat.le_refl
/-- The same rows hold of the same integers. -/
theorem row_same {S S' : ISys} {p q : Nat → Int} {i i' : Nat} (hn : S'.n = S.n) (hA : ∀ c, c < S.n → S'.A i' c = S.A i c) (hM : S'.most i' = S.most i) (hp : ∀ c, c < S.n → q c = p c) : S'.Row q i' ↔ S.Row p i := by
 unfold ISys.Row
 rw [hn, hM, sumR_congr (g := fun c => ((S.A i c : Int) : Rat) * ((p c : Int) : Rat)) fun c hc => by rw [hA c hc, hp c hc]]
end Go.Proofs.Ytphjffbldhhdiaa
