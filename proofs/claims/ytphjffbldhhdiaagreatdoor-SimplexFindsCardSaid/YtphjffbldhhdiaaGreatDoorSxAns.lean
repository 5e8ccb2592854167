/- What Solve's answer says: plain. -/
import Derived.Test.YtphjffbldhhdiaaGreatDoorSxSolve
namespace Go.Proofs.YtphjffbldhhdiaaGreatDoor
open Go.RowKit

/-- The same rows. -/
structure SameSys (S S' : Sys) : Prop where
  n : S'.n = S.n
  m : S'.m = S.m
  A : ∀ i c, i < S.m → c < S.n → S'.A i c = S.A i c
  most : ∀ i, i < S.m → S'.most i = S.most i
theorem SameSys.refl (S : Sys) : SameSys S S := ⟨rfl, rfl, fun _ _ _ _ => rfl, fun _ _ => rfl⟩
theorem SameSys.fits {S S' : Sys} (h : SameSys S S') {x : Nat → Rat} (hx : S'.Fits x) : S.Fits x := by
  intro i hi
  have h1 := hx i (by rw [h.m]; exact hi)
  rw [h.n, h.most i hi] at h1
  rw [sumR_congr (g := fun c => S'.A i c * x c) fun c hc => by rw [h.A i c hi hc]]
  exact h1
theorem SameSys.fits' {S S' : Sys} (h : SameSys S S') {x : Nat → Rat} (hx : S.Fits x) : S'.Fits x := by
  intro i hi
  rw [h.m] at hi
  have h1 := hx i hi
  rw [h.n, h.most i hi]
  rw [sumR_congr (g := fun c => S.A i c * x c) fun c hc => by rw [h.A i c hi hc]]
  exact h1
theorem SameSys.never {S S' : Sys} (h : SameSys S S') {y : Nat → Rat} (hy : S'.Never y) : S.Never y where
  pos := fun i hi => hy.pos i (by rw [h.m]; exact hi)
  zero := fun k hk => by
    have h1 := hy.zero k (by rw [h.n]; exact hk)
    rw [h.m] at h1
    rw [← h1]
    exact sumR_congr fun i hi => by rw [h.A i k hi hk]
  neg := by
    have h1 := hy.neg
    rw [h.m] at h1
    rw [sumR_congr (g := fun i => y i * S'.most i) fun i hi => by rw [h.most i hi]]
    exact h1
/-- The one that the line tells is taken once. -/
theorem why_one {S : Sys} {t : Sim} (h : Inv S t) {l0 : Nat} (hl : l0 < S.m) (ho : S.Over t l0) (hno : ∀ c, c < S.n → ¬S.Free t l0 c) : ∀ k, k ≤ S.n → whyK S t l0 k (t.told l0 - S.n) = 1
  | 0, _ => put_at _ _ _
  | k + 1, hk => by
    rw [whyK]
    split
    · exact why_one h hl ho hno k (by omega)
    · rename_i hT
      have h1 := (why_neg h hno (show k < S.n by omega) hT).2
      have h2 := h.at'.apart l0 k hl (by omega)
      have h3 := ho.1
      rw [put_else _ _ (by omega)]
      exact why_one h hl ho hno k (by omega)
theorem why_sz {S : Sys} {s : Nat} (hA : ∀ i c, i < S.m → c < S.n → Qn s (S.A i c)) (h1 : 1 ≤ s) {t : Sim} (h : Inv S t) {l : Nat} (hl : l < S.m) (i : Nat) : ∀ k, k ≤ S.n → Qn (szB s S.n) (whyK S t l k i)
  | 0, _ => by
    have hs : 1 ≤ szB s S.n := Nat.le_trans h1 (szB_mono (d := 0) (Nat.zero_le _))
    show Qn _ (put _ _ _ _)
    unfold put
    split
    · exact Qn.mono Qn.one hs
    · exact Qn.mono Qn.zero hs
  | k + 1, hk => by
    have ih := why_sz hA h1 h hl i k (by omega)
    rw [whyK]
    split
    · exact ih
    · unfold put
      split
      · exact Qn.neg (h.size sizesQ hA hl (by omega))
      · exact ih
/-- What Solve answers: values that fit, or times that say never. -/
def AnsQ (w w' : World) (S : Sys) (k2 k1 : Nat) (v : Value) : Prop :=
  (∃ x, S.Fits x ∧ (∀ c, c < S.n → Qn k2 (x c)) ∧ ∃ g, w.heap.size ≤ g ∧ v = .agg #[.slice (some ⟨g, 0, none⟩) S.n S.n, .slice none 0 0] ∧ ∀ c, c < S.n → FAt w' g (c * 4) (x c)) ∨
  (∃ y, S.Never y ∧ (∀ i, i < S.m → Qn k1 (y i)) ∧ 0 < S.m ∧ (∃ i, i < S.m ∧ y i = 1) ∧ ∃ g, w.heap.size ≤ g ∧ v = .agg #[.slice none 0 0, .slice (some ⟨g, 0, none⟩) S.m S.m] ∧ ∀ i, i < S.m → FAt w' g (i * 4) (y i))
theorem AnsV.q {w w' : World} {S S' : Sys} {s M : Nat} {v : Value} (h : AnsV w w' S' v) (he : SameSys S S') (hs : 1 ≤ s) (hM1 : 1 ≤ M) (hA : ∀ i c, i < S.m → c < S.n → Qn s (S.A i c)) (hM : ∀ i, i < S.m → Qn M (S.most i)) : AnsQ w w' S (S.n * (szB s S.n + M + 1) + M + 1) (szB s S.n) v := by
  have hA' : ∀ i c, i < S'.m → c < S'.n → Qn s (S'.A i c) := fun i c hi hc => by rw [he.m] at hi; rw [he.n] at hc; rw [he.A i c hi hc]; exact hA i c hi hc
  have hM' : ∀ i, i < S'.m → Qn M (S'.most i) := fun i hi => by rw [he.m] at hi; rw [he.most i hi]; exact hM i hi
  obtain ⟨u, hu, ⟨hno, g, hg, rfl, hat⟩ | ⟨l0, hf, hfr, g, hg, rfl, hat⟩⟩ := h
  · refine .inl ⟨u.val, he.fits (hu.inv.fits hno), fun c hc => ?_, g, hg, by rw [he.n], fun c hc => hat c (by rw [he.n]; exact hc)⟩
    have h1 := hu.inv.valSize sizesQ hA' hM' hM1 (v := c) (by rw [he.n]; omega)
    rw [he.n] at h1
    exact h1
  · have hl : l0 < S'.m := hf.1
    have ho := hf.2.1
    refine .inr ⟨whyK S' u l0 S'.n, he.never (why_never hu.inv hl ho hfr), fun i hi => ?_, by rw [← he.m]; omega, ⟨u.told l0 - S'.n, ?_, why_one hu.inv hl ho hfr _ (Nat.le_refl _)⟩, g, hg, by rw [he.m], fun i hi => hat i (by rw [he.m]; exact hi)⟩
    · have := why_sz hA' hs hu.inv hl i S'.n (Nat.le_refl _)
      rw [he.n] at this ⊢
      exact this
    · have h1 := hu.inv.at'.toldLt l0 hl
      have h2 := ho.1
      rw [← he.m]
      omega
/-- What Solve leaves of rows that may be. -/
def SolveQ (w : World) (S : Sys) (k2 k1 : Nat) (e : Ending) (w' : World) : Prop := Below w.heap.size w w' ∧ ∃ v, e = .returned (.tuple #[v, .int .i64 0]) ∧ AnsQ w w' S k2 k1 v
theorem solve_q {S : Sys} {s M : Nat} {a : Option Addr} {cap b o : Nat} (w : World) (hf : Fair S s M) (hs : 1 ≤ s) (hM1 : 1 ≤ M) (ha : 0 < S.m → a = some ⟨b, o, none⟩) (hR : RowsV w b o S) :
    Calls Tryz.prog 8 #[.int .i64 (S.n : Int), .slice a S.m cap] w (SolveQ w S (S.n * (szB s S.n + M + 1) + M + 1) (szB s S.n)) := by
  obtain ⟨hn, hm⟩ := And.intro hf.n hf.m
  have hk : s + M ≤ 1000000100 := by have := hf.sLe; have := hf.MLe; omega
  obtain ⟨rs, r1, r2, r3, r4, r5, r6⟩ := hR.raw2 (N := 1000000000) (by decide) (fun i c hi hc => Qn.mono (hf.A i c hi hc) (by have := hf.sLe; omega)) (fun i hi => Qn.mono (hf.most i hi) hf.MLe) (by omega)
  have hat : RowsAt w a rs := fun h0 => by
    rw [r3] at h0
    rw [ha h0]
    exact r1 (by rw [r3]; exact h0)
  have hsm : SameSys S (sysOf S.n rs) := ⟨rfl, r3, r5, r6⟩
  have hx : ∀ r ∈ rs, r.xs.length ≤ 1000000 := fun r hr => by
    obtain ⟨i, hi, rfl⟩ := List.mem_iff_getElem.1 hr
    have := (right_row r2 hi).1
    omega
  have hfair : Fair (sysOf S.n rs) s M := {
    n := hn, m := by show rs.length ≤ 64; omega, sLe := hf.sLe, MLe := hf.MLe,
    A := fun i c hi hc => by rw [hsm.A i c (by rw [← hsm.m]; exact hi) hc]; exact hf.A i c (by rw [← hsm.m]; exact hi) hc
    most := fun i hi => by rw [hsm.most i (by rw [← hsm.m]; exact hi)]; exact hf.most i (by rw [← hsm.m]; exact hi) }
  have ht : ((S.n : Int)).toNat = S.n := by omega
  have h := solve_any (s := s) (M := M) (S.n : Int) a cap rs w hat r4 (by omega) hx (fun _ => by rw [ht]; exact hfair)
  rw [r3] at h
  refine h.mono ?_
  rintro e w' ⟨hb, ⟨h1, _⟩ | ⟨_, v, rfl, hv⟩⟩
  · rw [r2] at h1; cases h1
  · rw [ht] at hv
    exact ⟨hb, v, rfl, hv.q hsm hs hM1 hf.A hf.most⟩
end Go.Proofs.YtphjffbldhhdiaaGreatDoor
