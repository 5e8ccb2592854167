/- No run of first choices comes back to the same columns: plain. -/
import Derived.Test.YtphjffbldhhdiaaGreatDoorProg
import Derived.Test.YtphjffbldhhdiaaGreatDoorSxSum
import Derived.Test.YtphjffbldhhdiaaGreatDoorSxTab
import Derived.Test.YtphjffbldhhdiaaGreatDoorSxRun
namespace Go.Proofs.YtphjffbldhhdiaaGreatDoor

theorem exists_max {P : Nat → Prop} : ∀ N, (∀ p, P p → p < N) → (∃ p, P p) → ∃ q, P q ∧ ∀ p, P p → p ≤ q
  | 0, h, ⟨p, hp⟩ => absurd (h p hp) (Nat.not_lt_zero _)
  | N + 1, h, hx => by
    by_cases hN : P N
    · exact ⟨N, hN, fun p hp => Nat.le_of_lt_succ (h p hp)⟩
    · exact exists_max N (fun p hp => by
        have := h p hp
        rcases Nat.lt_or_ge p N with h1 | h1
        · exact h1
        · exact absurd (show P N from (show p = N from by omega) ▸ hp) hN) hx

section
variable {S : Sys} {t : Nat → Sim} {L C : Nat → Nat} {k : Nat} (hr : Run S t L C k)
include hr

theorem Run.stays {v : Nat} {a : Nat} : ∀ d, a + d ≤ k → (∀ s, a ≤ s → s < a + d → v ≠ (t s).col (C s)) → In S (t a) v → In S (t (a + d)) v
  | 0, _, _, h => h
  | d + 1, hk, hn, h => by
    have h1 := Run.stays (v := v) (a := a) d (by omega) (fun s h1 h2 => hn s h1 (by omega)) h
    exact ((hr.step (a + d) (by omega)).cols (hr.inv _ (by omega)) v).mpr (.inr ⟨h1, hn _ (by omega) (by omega)⟩)
theorem Run.was {v : Nat} {a : Nat} : ∀ d, a + d ≤ k → (∀ s, a ≤ s → s < a + d → v ≠ (t s).told (L s)) → In S (t (a + d)) v → In S (t a) v
  | 0, _, _, h => h
  | d + 1, hk, hn, h => by
    rcases ((hr.step (a + d) (by omega)).cols (hr.inv _ (by omega)) v).mp h with h1 | ⟨h1, _⟩
    · exact absurd h1 (hn _ (by omega) (by omega))
    · exact Run.was (v := v) (a := a) d (by omega) (fun s h1 h2 => hn s h1 (by omega)) h1

theorem Run.entry {i j : Nat} (hj : j ≤ k) (hkey : key S (t i) = key S (t j)) {s : Nat} (h1 : i ≤ s) (h2 : s < j) :
    ∃ s', i ≤ s' ∧ s' < j ∧ (t s').col (C s') = (t s).told (L s) := by
  refine Classical.byContradiction fun hno => ?_
  have hno' : ∀ s', i ≤ s' → s' < j → (t s).told (L s) ≠ (t s').col (C s') := fun s' a b he => hno ⟨s', a, b, he.symm⟩
  have hs := hr.step s (by omega)
  have hin : In S (t (s + 1)) ((t s).told (L s)) := (hs.cols (hr.inv _ (by omega)) _).mpr (.inl rfl)
  have h3 := hr.stays (v := (t s).told (L s)) (a := s + 1) (j - (s + 1)) (by omega) (fun s' a b => hno' s' (by omega) (by omega)) hin
  rw [show s + 1 + (j - (s + 1)) = j from by omega] at h3
  have h4 := (key_eq hkey ((hr.inv s (by omega)).at'.toldLt _ hs.line.1)).mpr h3
  have h5 := hr.stays (v := (t s).told (L s)) (a := i) (s - i) (by omega) (fun s' a b => hno' s' (by omega) (by omega)) h4
  rw [show i + (s - i) = s from by omega] at h5
  exact (hr.inv s (by omega)).notIn hs.line.1 h5
theorem Run.exit {i j : Nat} (hj : j ≤ k) (hkey : key S (t i) = key S (t j)) {s : Nat} (h1 : i ≤ s) (h2 : s < j) :
    ∃ s', i ≤ s' ∧ s' < j ∧ (t s').told (L s') = (t s).col (C s) := by
  refine Classical.byContradiction fun hno => ?_
  have hno' : ∀ s', i ≤ s' → s' < j → (t s).col (C s) ≠ (t s').told (L s') := fun s' a b he => hno ⟨s', a, b, he.symm⟩
  have hs := hr.step s (by omega)
  have hat : In S (t s) ((t s).col (C s)) := ⟨_, hs.column.1, rfl⟩
  have hi := hr.inv s (by omega)
  have h3 := hr.was (v := (t s).col (C s)) (a := i) (s - i) (by omega) (fun s' a b => hno' s' (by omega) (by omega)) (by rw [show i + (s - i) = s from by omega]; exact hat)
  have h4 := (key_eq hkey (hi.at'.colLt _ hs.column.1)).mp h3
  have h5 := hr.was (v := (t s).col (C s)) (a := s + 1) (j - (s + 1)) (by omega) (fun s' a b => hno' s' (by omega) (by omega)) (by rw [show s + 1 + (j - (s + 1)) = j from by omega]; exact h4)
  rcases (hs.cols hi _).mp h5 with h6 | ⟨_, h6⟩
  · exact hi.at'.apart _ _ hs.line.1 hs.column.1 h6.symm
  · exact h6 rfl

theorem Run.bland {i j : Nat} (hij : i < j) (hj : j ≤ k) (hkey : key S (t i) = key S (t j)) : False := by
  obtain ⟨q, ⟨s, hs1, hs2, hsq⟩, hmax⟩ := exists_max (P := fun p => ∃ s, i ≤ s ∧ s < j ∧ (t s).told (L s) = p) (S.n + S.m)
    (fun p ⟨s, h1, h2, h3⟩ => h3 ▸ (hr.inv s (by omega)).at'.toldLt _ (hr.step s (by omega)).line.1)
    ⟨_, i, by omega, hij, rfl⟩
  obtain ⟨u, hu1, hu2, huq⟩ := hr.entry hj hkey hs1 hs2
  rw [hsq] at huq
  have hS := hr.step s (by omega)
  have hU := hr.step u (by omega)
  have hIs := hr.inv s (by omega)
  have hIu := hr.inv u (by omega)
  have hrow : ∀ p, (∃ s, i ≤ s ∧ s < j ∧ (t s).told (L s) = p) → S.n ≤ p := fun p ⟨s, h1, h2, h3⟩ => h3 ▸ (hr.step s (by omega)).line.2.1.1
  -- at s
  have hs_le : ∀ p, (∃ s, i ≤ s ∧ s < j ∧ (t s).told (L s) = p) → p ≠ q → (t s).val p ≤ S.most (p - S.n) := by
    intro p hp hne
    have hlt : p < q := by have := hmax p hp; omega
    have hpN : p < S.n + S.m := by
      obtain ⟨s', h1, h2, h3⟩ := hp
      exact h3 ▸ (hr.inv s' (by omega)).at'.toldLt _ (hr.step s' (by omega)).line.1
    rcases hIs.at'.all p hpN with ⟨l, h1, h2⟩ | ⟨c, h1, h2⟩
    · by_cases ho : S.Over (t s) l
      · have h3 := hS.line.2.2 l h1 ho
        omega
      · have h3 : ¬(S.n ≤ (t s).told l ∧ S.most ((t s).told l - S.n) < (t s).val ((t s).told l)) := ho
        rw [h2] at h3
        have h4 := hrow p hp
        have h5 : ¬(S.most (p - S.n) < (t s).val p) := fun hh => h3 ⟨h4, hh⟩
        grind
    · have h3 := hIs.hi c h1 (by rw [h2]; exact hrow p hp)
      rw [h2] at h3
      rw [h3]
      grind
  have hs_q : S.most (q - S.n) < (t s).val q := by
    have := hS.line.2.1.2
    rwa [hsq] at this
  -- at u
  have hb : ∃ s, i ≤ s ∧ s < j ∧ (t s).told (L s) = (t u).told (L u) := ⟨u, hu1, hu2, rfl⟩
  have hbq : (t u).told (L u) ≠ q := fun he => hIu.at'.apart _ _ hU.line.1 hU.column.1 (he.trans huq.symm)
  have hb1 := hs_le _ hb hbq
  have hb2 : S.most ((t u).told (L u) - S.n) < (t u).val ((t u).told (L u)) := hU.line.2.1.2
  have hqrow : S.n ≤ q := hrow q ⟨s, hs1, hs2, hsq⟩
  have e1 := (hIu.tells (t s).val).mp hIs.rel _ hU.line.1
  have e2 := (hIu.tells (t u).val).mp hIu.rel _ hU.line.1
  have hsum : (sumR S.n fun c => (t u).T (L u) c * (t u).val ((t u).col c)) ≤ sumR S.n fun c => (t u).T (L u) c * (t s).val ((t u).col c) := by
    refine sumR_le fun c hc => ?_
    by_cases hf : ∃ s, i ≤ s ∧ s < j ∧ (t s).told (L s) = (t u).col c
    · have hval : (t u).val ((t u).col c) = S.most ((t u).col c - S.n) := hIu.hi c hc (hrow _ hf)
      by_cases hq : (t u).col c = q
      · have hcc : c = C u := hIu.at'.colInj _ _ hc hU.column.1 (hq.trans huq.symm)
        have h1 := (hIu.free hU.column.1).mp hU.column.2.1
        rw [← hcc, hq] at h1
        have h2 : 0 < (t u).T (L u) c := by
          rcases h1.2 with h2 | h2
          · exact h2
          · omega
        rw [hval, hq]
        exact Rat.mul_le_mul_of_nonneg_left (by grind) (by grind)
      · have h1 := hs_le _ hf hq
        have h2 : (t u).T (L u) c ≤ 0 := by
          refine Classical.byContradiction fun hno => ?_
          have hfree : S.Free (t u) (L u) c := (hIu.free hc).mpr ⟨by grind, .inl (by grind)⟩
          have h3 := hU.column.2.2 c hc hfree
          have h4 := hmax _ hf
          omega
        rw [hval]
        have h3 := Rat.mul_le_mul_of_nonneg_left (a := (t s).val ((t u).col c)) (b := S.most ((t u).col c - S.n)) (c := -(t u).T (L u) c) h1 (by grind)
        grind
    · -- it stays where it is
      have hne1 : ∀ s', i ≤ s' → s' < j → (t u).col c ≠ (t s').told (L s') := fun s' a b he => hf ⟨s', a, b, he.symm⟩
      have hne2 : ∀ s', i ≤ s' → s' < j → (t u).col c ≠ (t s').col (C s') := fun s' a b he => by
        obtain ⟨s2, a2, b2, h2⟩ := hr.exit hj hkey a b
        exact hf ⟨s2, a2, b2, by rw [h2, he]⟩
      have hin : In S (t s) ((t u).col c) := by
        have h0 : In S (t u) ((t u).col c) := ⟨c, hc, rfl⟩
        rcases Nat.le_total s u with hsu | hsu
        · exact hr.was (v := (t u).col c) (a := s) (u - s) (by omega) (fun s' a b => hne1 s' (by omega) (by omega)) (by rw [show s + (u - s) = u from by omega]; exact h0)
        · have := hr.stays (v := (t u).col c) (a := u) (s - u) (by omega) (fun s' a b => hne2 s' (by omega) (by omega)) h0
          rwa [show u + (s - u) = s from by omega] at this
      obtain ⟨c', hc', he⟩ := hin
      have : (t u).val ((t u).col c) = (t s).val ((t u).col c) := by
        rcases Nat.lt_or_ge ((t u).col c) S.n with hlt | hge
        · rw [hIu.lo c hc hlt, ← he, hIs.lo c' hc' (by rw [he]; exact hlt)]
        · rw [hIu.hi c hc hge]
          have h3 := hIs.hi c' hc' (by rw [he]; exact hge)
          rw [he] at h3
          rw [h3]
      rw [this]
      grind
  rw [← e1, ← e2] at hsum
  grind
/-- A run is no longer than there are keys. -/
theorem Run.ends : k < (allB (S.n + S.m)).length := by
  refine Classical.byContradiction fun hno => ?_
  obtain ⟨i, j, hij, hj, he⟩ := pigeonB (fun i => key S (t i)) (n := S.n + S.m) (fun i => by simp [key])
  exact hr.bland hij (by omega) he
end
end Go.Proofs.YtphjffbldhhdiaaGreatDoor
