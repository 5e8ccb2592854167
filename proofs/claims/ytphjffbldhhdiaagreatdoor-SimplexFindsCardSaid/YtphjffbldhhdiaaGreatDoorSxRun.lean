/- A run of turns ends: plain. -/
import Derived.Test.YtphjffbldhhdiaaGreatDoorProg
import Derived.Test.YtphjffbldhhdiaaGreatDoorSxSum
import Derived.Test.YtphjffbldhhdiaaGreatDoorSxTab
namespace Go.Proofs.YtphjffbldhhdiaaGreatDoor

/-- The line's row is greater than it may be. -/
def Sys.Over (S : Sys) (t : Sim) (l : Nat) : Prop := S.n ≤ t.told l ∧ S.most (t.told l - S.n) < t.val (t.told l)
/-- The line's one can become less by the column's. -/
def Sys.Free (S : Sys) (t : Sim) (l c : Nat) : Prop :=
  if 0 ≤ t.T l c ∨ t.col c < S.n then t.T l c ≠ 0 else t.val (t.col c) < S.most (t.col c - S.n)
/-- The first of a row, by what stands there. -/
def First (n : Nat) (p : Nat → Prop) (f : Nat → Nat) (k : Nat) : Prop := k < n ∧ p k ∧ ∀ i, i < n → p i → f k ≤ f i

/-- The values after the first k lines' steps. -/
def stepV (t : Sim) (c0 : Nat) (step : Rat) : Nat → (Nat → Rat)
  | 0 => t.val
  | k + 1 => put (stepV t c0 step k) (t.told k) (stepV t c0 step k (t.told k) + t.T k c0 * step)
def turnStep (S : Sys) (t : Sim) (l0 c0 : Nat) : Rat := (S.most (t.told l0 - S.n) - t.val (t.told l0)) / t.T l0 c0
def turnT (S : Sys) (t : Sim) (l0 c0 : Nat) : Sim where
  told := put t.told l0 (t.col c0)
  col := put t.col c0 (t.told l0)
  T := pivT t.T l0 c0
  val := put (stepV t c0 (turnStep S t l0 c0) S.m) (t.col c0) (stepV t c0 (turnStep S t l0 c0) S.m (t.col c0) + turnStep S t l0 c0)

structure Inv (S : Sys) (t : Sim) : Prop where
  at' : Places S t.told t.col
  tells : Tells S t.told t.col t.T
  rel : S.Rel t.val
  lo : ∀ c, c < S.n → t.col c < S.n → t.val (t.col c) = 0
  hi : ∀ c, c < S.n → S.n ≤ t.col c → t.val (t.col c) = S.most (t.col c - S.n)

theorem stepV_else (t : Sim) (c0 : Nat) (step : Rat) (v : Nat) : ∀ k, (∀ l, l < k → t.told l ≠ v) → stepV t c0 step k v = t.val v
  | 0, _ => rfl
  | k + 1, h => by rw [stepV, put_else _ _ (fun he => h k (by omega) he.symm), stepV_else t c0 step v k (fun l hl => h l (by omega))]
theorem stepV_told (t : Sim) (c0 : Nat) (step : Rat) {l : Nat} : ∀ k, l < k → (∀ l', l' < k → t.told l' = t.told l → l' = l) → stepV t c0 step k (t.told l) = t.val (t.told l) + t.T l c0 * step
  | k + 1, hl, h => by
    rw [stepV]
    by_cases hk : l = k
    · subst hk
      rw [put_at, stepV_else t c0 step _ l (fun l' hl' he => by have := h l' (by omega) he; omega)]
    · rw [put_else _ _ (fun he => hk (h k (by omega) he.symm).symm), stepV_told t c0 step k (by omega) (fun l' hl' he => h l' (by omega) he)]

theorem turn_val {S : Sys} {t : Sim} (h : Inv S t) {l0 c0 : Nat} (hc : c0 < S.n) :
    (∀ l, l < S.m → (turnT S t l0 c0).val (t.told l) = t.val (t.told l) + t.T l c0 * turnStep S t l0 c0) ∧
    (turnT S t l0 c0).val (t.col c0) = t.val (t.col c0) + turnStep S t l0 c0 ∧
    (∀ c, c < S.n → c ≠ c0 → (turnT S t l0 c0).val (t.col c) = t.val (t.col c)) := by
  refine ⟨fun l hl => ?_, ?_, fun c hc' hne => ?_⟩
  · show put _ _ _ _ = _
    rw [put_else _ _ (h.at'.apart l c0 hl hc), stepV_told t c0 _ S.m hl (fun l' hl' he => h.at'.toldInj _ _ hl' hl he)]
  · show put _ _ _ _ = _
    rw [put_at, stepV_else t c0 _ _ S.m (fun l hl => h.at'.apart l c0 hl hc)]
  · show put _ _ _ _ = _
    rw [put_else _ _ (fun he => hne (h.at'.colInj _ _ hc' hc he)), stepV_else t c0 _ _ S.m (fun l hl => h.at'.apart l c hl hc')]

theorem Inv.turn {S : Sys} {t : Sim} (h : Inv S t) {l0 c0 : Nat} (hl : l0 < S.m) (hc : c0 < S.n) (ho : S.n ≤ t.told l0) (hb : t.T l0 c0 ≠ 0) : Inv S (turnT S t l0 c0) := by
  obtain ⟨hv1, hv2, hv3⟩ := turn_val (l0 := l0) h hc
  have htells := h.tells.turn hl hc hb
  have hout : (turnT S t l0 c0).val (t.told l0) = S.most (t.told l0 - S.n) := by
    rw [hv1 l0 hl, turnStep]
    grind
  refine ⟨h.at'.turn hl hc, htells, ?_, fun c hc' hlt => ?_, fun c hc' hge => ?_⟩
  · -- by the lines that were
    rw [h.tells]
    intro l hl'
    have h0 := (h.tells t.val).mp h.rel l hl'
    have h1 := sumR_put (f := fun c => t.T l c * (turnT S t l0 c0).val (t.col c)) (g := fun c => t.T l c * t.val (t.col c)) hc (fun c hc' hne => by
      rw [hv3 c hc' hne])
    rw [hv1 l hl', h1, h0, hv2]
    grind
  · have hc0 : c ≠ c0 := fun he => by
      have h1 : (turnT S t l0 c0).col c = t.told l0 := by rw [he]; exact put_at _ _ _
      omega
    have h1 : (turnT S t l0 c0).col c = t.col c := put_else _ _ hc0
    rw [h1] at hlt ⊢
    rw [hv3 c hc' hc0]
    exact h.lo c hc' hlt
  · by_cases hc0 : c = c0
    · have h1 : (turnT S t l0 c0).col c = t.told l0 := by rw [hc0]; exact put_at _ _ _
      rw [h1]
      exact hout
    · have h1 : (turnT S t l0 c0).col c = t.col c := put_else _ _ hc0
      rw [h1] at hge ⊢
      rw [hv3 c hc' hc0]
      exact h.hi c hc' hge

/-- What a free column is, where the invariant holds. -/
theorem Inv.free {S : Sys} {t : Sim} (h : Inv S t) {l c : Nat} (hc : c < S.n) : S.Free t l c ↔ (t.T l c ≠ 0 ∧ (0 < t.T l c ∨ t.col c < S.n)) := by
  unfold Sys.Free
  split
  · rename_i hh
    constructor
    · intro h1
      refine ⟨h1, ?_⟩
      rcases hh with h2 | h2
      · exact .inl (by grind)
      · exact .inr h2
    · exact fun h1 => h1.1
  · rename_i hh
    constructor
    · intro h1
      rw [h.hi c hc (by omega)] at h1
      grind
    · intro h1
      exact absurd (by rcases h1.2 with h2 | h2; exact .inl (by grind); exact .inr h2) hh

/-- One step: the first line that is over, the first column that is free. -/
structure Step (S : Sys) (t u : Sim) (l0 c0 : Nat) : Prop where
  line : First S.m (S.Over t) t.told l0
  column : First S.n (S.Free t l0) t.col c0
  eq : u = turnT S t l0 c0
theorem Step.inv {S : Sys} {t u : Sim} {l0 c0 : Nat} (h : Step S t u l0 c0) (hi : Inv S t) : Inv S u := by
  rw [h.eq]
  exact hi.turn h.line.1 h.column.1 h.line.2.1.1 ((hi.free h.column.1).mp h.column.2.1).1

/-- A row of steps. -/
structure Run (S : Sys) (t : Nat → Sim) (L C : Nat → Nat) (k : Nat) : Prop where
  start : Inv S (t 0)
  step : ∀ i, i < k → Step S (t i) (t (i + 1)) (L i) (C i)
theorem Run.inv {S : Sys} {t : Nat → Sim} {L C : Nat → Nat} {k : Nat} (h : Run S t L C k) : ∀ i, i ≤ k → Inv S (t i)
  | 0, _ => h.start
  | i + 1, hi => (h.step i (by omega)).inv (h.inv i (by omega))

/-- v stands in a column. -/
def In (S : Sys) (t : Sim) (v : Nat) : Prop := ∃ c, c < S.n ∧ t.col c = v
open Classical in
noncomputable def key (S : Sys) (t : Sim) : List Bool := (List.range (S.n + S.m)).map fun v => decide (In S t v)
theorem key_eq {S : Sys} {t u : Sim} (h : key S t = key S u) {v : Nat} (hv : v < S.n + S.m) : In S t v ↔ In S u v := by
  have h1 := congrArg (fun l => l[v]?) h
  simp only [key, List.getElem?_map, List.getElem?_range hv, Option.map_some, Option.some.injEq, decide_eq_decide] at h1
  exact h1

/-- What a step does to the columns. -/
theorem Step.cols {S : Sys} {t u : Sim} {l0 c0 : Nat} (h : Step S t u l0 c0) (hi : Inv S t) (v : Nat) :
    In S u v ↔ (v = t.told l0 ∨ (In S t v ∧ v ≠ t.col c0)) := by
  have hc := h.column.1
  have hu : u.col = put t.col c0 (t.told l0) := by rw [h.eq]; rfl
  constructor
  · rintro ⟨c, h1, h2⟩
    rw [hu] at h2
    by_cases hh : c = c0
    · rw [hh, put_at] at h2
      exact .inl h2.symm
    · rw [put_else _ _ hh] at h2
      exact .inr ⟨⟨c, h1, h2⟩, fun he => hh (hi.at'.colInj _ _ h1 hc (h2.trans he))⟩
  · rintro (h1 | ⟨⟨c, h1, h2⟩, h3⟩)
    · exact ⟨c0, hc, by rw [hu, put_at, h1]⟩
    · exact ⟨c, h1, by rw [hu, put_else _ _ (fun he => h3 (by rw [← h2, he])), h2]⟩
/-- One that stands in a line stands in no column. -/
theorem Inv.notIn {S : Sys} {t : Sim} (hi : Inv S t) {l : Nat} (hl : l < S.m) : ¬In S t (t.told l) := fun ⟨c, h1, h2⟩ => hi.at'.apart l c hl h1 h2.symm
theorem Inv.line {S : Sys} {t : Sim} (hi : Inv S t) {v : Nat} (hv : v < S.n + S.m) (hn : ¬In S t v) : ∃ l, l < S.m ∧ t.told l = v := by
  rcases hi.at'.all v hv with h | h
  · exact h
  · exact absurd h hn
end Go.Proofs.YtphjffbldhhdiaaGreatDoor
