/- What a run of turns comes to: plain. -/
import Derived.Test.YtphjffbldhhdiaaGreatDoorProg
import Derived.Test.YtphjffbldhhdiaaGreatDoorSxSum
import Derived.Test.YtphjffbldhhdiaaGreatDoorSxTab
import Derived.Test.YtphjffbldhhdiaaGreatDoorSxRun
import Derived.Test.YtphjffbldhhdiaaGreatDoorSxBland
namespace Go.Proofs.YtphjffbldhhdiaaGreatDoor

/-- The table of the rows themselves. -/
def Sys.first (S : Sys) : Sim where
  told := fun l => S.n + l
  col := fun c => c
  T := S.A
  val := fun _ => 0
theorem Sys.first_inv (S : Sys) : Inv S S.first where
  at' := {
    toldLt := fun l h => by show S.n + l < _; omega
    colLt := fun c h => by show c < _; omega
    toldInj := fun l l' _ _ h => by have h : S.n + l = S.n + l' := h; omega
    colInj := fun c c' _ _ h => h
    apart := fun l c _ hc h => by have h : S.n + l = c := h; omega
    all := fun v hv => by
      rcases Nat.lt_or_ge v S.n with h | h
      · exact .inr ⟨v, h, rfl⟩
      · exact .inl ⟨v - S.n, by omega, by show S.n + (v - S.n) = v; omega⟩ }
  tells := fun z => Iff.rfl
  rel := fun i _ => by
    show (0 : Rat) = sumR S.n fun c => S.A i c * 0
    rw [show (fun c => S.A i c * (0 : Rat)) = fun _ => 0 from funext fun c => by grind, sumR_zero]
  lo := fun _ _ _ => rfl
  hi := fun c hc h => by have h : S.n ≤ c := h; omega

/-- All rows are so, of these unknowns. -/
def Sys.Fits (S : Sys) (x : Nat → Rat) : Prop := ∀ i, i < S.m → (sumR S.n fun c => S.A i c * x c) ≤ S.most i
/-- The rows, so many times each, say that 0 is less than 0. -/
structure Sys.Never (S : Sys) (w : Nat → Rat) : Prop where
  pos : ∀ i, i < S.m → 0 ≤ w i
  zero : ∀ k, k < S.n → (sumR S.m fun i => w i * S.A i k) = 0
  neg : (sumR S.m fun i => w i * S.most i) < 0
theorem Sys.Never.no {S : Sys} {w x : Nat → Rat} (h : S.Never w) (hx : S.Fits x) : False := by
  have h1 : (sumR S.m fun i => w i * sumR S.n fun c => S.A i c * x c) ≤ sumR S.m fun i => w i * S.most i :=
    sumR_le fun i hi => Rat.mul_le_mul_of_nonneg_left (hx i hi) (h.pos i hi)
  have h2 : (sumR S.m fun i => w i * sumR S.n fun c => S.A i c * x c) = 0 := by
    rw [show (fun i => w i * sumR S.n fun c => S.A i c * x c) = fun i => sumR S.n fun c => x c * (w i * S.A i c) from funext fun i => by
      rw [← sumR_mul]
      exact sumR_congr fun c _ => by grind]
    rw [← sumR_swap]
    rw [show (fun c => sumR S.m fun i => x c * (w i * S.A i c)) = fun c => x c * sumR S.m fun i => w i * S.A i c from funext fun c => sumR_mul _ _ _]
    rw [sumR_congr (g := fun _ => 0) fun c hc => by rw [h.zero c hc]; grind, sumR_zero]
  have h3 := h.neg
  rw [h2] at h1
  grind

/-- Where no row is over, all are so. -/
theorem Inv.fits {S : Sys} {t : Sim} (h : Inv S t) (hno : ∀ l, l < S.m → ¬S.Over t l) : S.Fits t.val := by
  intro i hi
  rw [← h.rel i hi]
  rcases h.at'.all (S.n + i) (by omega) with ⟨l, h1, h2⟩ | ⟨c, h1, h2⟩
  · have h3 : ¬(S.n ≤ t.told l ∧ S.most (t.told l - S.n) < t.val (t.told l)) := hno l h1
    rw [h2, show S.n + i - S.n = i from by omega] at h3
    have : ¬(S.most i < t.val (S.n + i)) := fun hh => h3 ⟨by omega, hh⟩
    grind
  · have h3 := h.hi c h1 (by omega)
    rw [h2, show S.n + i - S.n = i from by omega] at h3
    rw [h3]
    grind

/-- How many times each row is taken, after the first k columns. -/
def whyK (S : Sys) (t : Sim) (l0 : Nat) : Nat → (Nat → Rat)
  | 0 => put (fun _ => 0) (t.told l0 - S.n) 1
  | k + 1 => if t.T l0 k = 0 then whyK S t l0 k else put (whyK S t l0 k) (t.col k - S.n) (-(t.T l0 k))

section
variable {S : Sys} {t : Sim} (h : Inv S t) {l0 : Nat} (hl : l0 < S.m) (ho : S.Over t l0) (hno : ∀ c, c < S.n → ¬S.Free t l0 c)
include h hno
theorem why_neg {c : Nat} (hc : c < S.n) (h0 : t.T l0 c ≠ 0) : t.T l0 c < 0 ∧ S.n ≤ t.col c := by
  have h1 : ¬(t.T l0 c ≠ 0 ∧ (0 < t.T l0 c ∨ t.col c < S.n)) := fun hh => hno c hc ((h.free hc).mpr hh)
  have h2 : ¬(0 < t.T l0 c) := fun hh => h1 ⟨h0, .inl hh⟩
  have h3 : ¬(t.col c < S.n) := fun hh => h1 ⟨h0, .inr hh⟩
  exact ⟨by grind, by omega⟩
include hl ho
omit hl in
theorem why_else {i : Nat} (hi : S.n + i ≠ t.told l0) : ∀ k, k ≤ S.n → (∀ c, c < k → t.col c ≠ S.n + i) → whyK S t l0 k i = 0
  | 0, _, _ => put_else _ _ (fun he => hi (by have := ho.1; omega))
  | k + 1, hk, hn => by
    rw [whyK]
    split
    · exact why_else hi k (by omega) (fun c hc => hn c (by omega))
    · rename_i hT
      have h1 := (why_neg h hno (by omega) hT).2
      rw [put_else _ _ (fun he => hn k (by omega) (by omega))]
      exact why_else hi k (by omega) (fun c hc => hn c (by omega))
theorem why_sum (g : Nat → Rat) : ∀ k, k ≤ S.n → (sumR S.m fun i => whyK S t l0 k i * g i) = g (t.told l0 - S.n) - sumR k fun c => t.T l0 c * g (t.col c - S.n)
  | 0, _ => by
    have h1 := h.at'.toldLt l0 hl
    have h2 := ho.1
    rw [sumR_one (c := t.told l0 - S.n) (by omega) (fun i hi hne => by
      show put _ _ _ _ * _ = _
      rw [put_else _ _ hne]
      grind)]
    show put _ _ _ _ * _ = _
    rw [put_at, sumR]
    grind
  | k + 1, hk => by
    have ih := why_sum g k (by omega)
    rw [sumR]
    by_cases hT : t.T l0 k = 0
    · rw [show whyK S t l0 (k + 1) = whyK S t l0 k from if_pos hT, ih, hT]
      grind
    · rw [show whyK S t l0 (k + 1) = put (whyK S t l0 k) (t.col k - S.n) (-(t.T l0 k)) from if_neg hT]
      have h1 := why_neg h hno (show k < S.n by omega) hT
      have h2 := h.at'.colLt k (by omega)
      have h3 : whyK S t l0 k (t.col k - S.n) = 0 := why_else h ho hno (fun he => h.at'.apart l0 k hl (by omega) (by omega)) k (by omega) (fun c hc he => by
        have := h.at'.colInj c k (by omega) (by omega) (by omega)
        omega)
      rw [sumR_put (g := fun i => whyK S t l0 k i * g i) (c := t.col k - S.n) (by omega) (fun i _ hne => by rw [put_else _ _ hne]), ih, put_at, h3]
      grind
theorem why_never : S.Never (whyK S t l0 S.n) where
  pos := by
    intro i hi
    have : ∀ k, k ≤ S.n → 0 ≤ whyK S t l0 k i := by
      intro k
      induction k with
      | zero =>
        intro _
        show 0 ≤ put _ _ _ _
        unfold put
        split <;> grind
      | succ k ih =>
        intro hk
        rw [whyK]
        split
        · exact ih (by omega)
        · rename_i hT
          have h1 := (why_neg h hno (show k < S.n by omega) hT).1
          unfold put
          split
          · grind
          · exact ih (by omega)
    exact this _ (Nat.le_refl _)
  zero := by
    intro k hk
    rw [why_sum h hl ho hno (fun i => S.A i k) S.n (Nat.le_refl _)]
    have hx : ∀ i, S.ext (fun c => if c = k then 1 else 0) (S.n + i) = S.A i k := fun i => by
      rw [Sys.ext, if_neg (by omega), show S.n + i - S.n = i from by omega, sumR_one hk (fun c _ hne => by rw [if_neg hne]; grind), if_pos rfl]
      grind
    have h1 := (h.tells _).mp (S.ext_rel fun c => if c = k then 1 else 0) l0 hl
    have h2 := ho.1
    rw [show t.told l0 = S.n + (t.told l0 - S.n) from by omega, hx] at h1
    rw [h1, sumR_congr (g := fun c => t.T l0 c * S.A (t.col c - S.n) k) fun c hc => by
      by_cases hT : t.T l0 c = 0
      · rw [hT]
        grind
      · have h3 := (why_neg h hno hc hT).2
        rw [show t.col c = S.n + (t.col c - S.n) from by omega, hx, show S.n + (t.col c - S.n) - S.n = t.col c - S.n from by omega]]
    grind
  neg := by
    rw [why_sum h hl ho hno S.most S.n (Nat.le_refl _)]
    have h1 := (h.tells _).mp h.rel l0 hl
    have h2 := ho.2
    rw [h1, sumR_congr (g := fun c => t.T l0 c * S.most (t.col c - S.n)) fun c hc => by
      by_cases hT : t.T l0 c = 0
      · rw [hT]
        grind
      · have h3 := (why_neg h hno hc hT).2
        rw [h.hi c hc h3]] at h2
    grind
end

/-- What a first choice is hangs on nothing else. -/
theorem First.unique {n : Nat} {p : Nat → Prop} {f : Nat → Nat} {k k' : Nat} (hf : ∀ i j, i < n → j < n → f i = f j → i = j) (h : First n p f k) (h' : First n p f k') : k = k' :=
  hf _ _ h.1 h'.1 (Nat.le_antisymm (h.2.2 _ h'.1 h'.2.1) (h'.2.2 _ h.1 h.2.1))

/-- The last table of a run from the rows themselves. -/
structure Last (S : Sys) (u : Sim) : Prop where
  run : ∃ t L C k, Run S t L C k ∧ t 0 = S.first ∧ t k = u
  done : (∀ l, l < S.m → ¬S.Over u l) ∨ ∃ l0, First S.m (S.Over u) u.told l0 ∧ ∀ c, c < S.n → ¬S.Free u l0 c
theorem Step.unique {S : Sys} {t u u' : Sim} {l0 c0 l1 c1 : Nat} (hi : Inv S t) (h : Step S t u l0 c0) (h' : Step S t u' l1 c1) : u = u' := by
  have h1 : l0 = l1 := h.line.unique hi.at'.toldInj h'.line
  subst h1
  have h2 : c0 = c1 := h.column.unique hi.at'.colInj h'.column
  subst h2
  rw [h.eq, h'.eq]
theorem Step.notDone {S : Sys} {t u : Sim} {l0 c0 : Nat} (hi : Inv S t) (h : Step S t u l0 c0) : ¬((∀ l, l < S.m → ¬S.Over t l) ∨ ∃ l0, First S.m (S.Over t) t.told l0 ∧ ∀ c, c < S.n → ¬S.Free t l0 c) := by
  rintro (h1 | ⟨l1, h1, h2⟩)
  · exact h1 _ h.line.1 h.line.2.1
  · have h3 : l0 = l1 := h.line.unique hi.at'.toldInj h1
    subst h3
    exact h2 _ h.column.1 h.column.2.1
theorem Last.unique {S : Sys} {u u' : Sim} (h : Last S u) (h' : Last S u') : u = u' := by
  obtain ⟨⟨t, L, C, k, hr, h0, hk⟩, hd⟩ := h
  obtain ⟨⟨t', L', C', k', hr', h0', hk'⟩, hd'⟩ := h'
  have heq : ∀ i, i ≤ k → i ≤ k' → t i = t' i := by
    intro i
    induction i with
    | zero => intros; rw [h0, h0']
    | succ i ih =>
      intro a b
      have := ih (by omega) (by omega)
      have h1 := hr'.step i (by omega)
      rw [← this] at h1
      exact (hr.step i (by omega)).unique (hr.inv i (by omega)) h1
  rcases Nat.lt_trichotomy k k' with h1 | h1 | h1
  · refine absurd hd ?_
    have := (hr'.step k h1).notDone (hr'.inv _ (by omega))
    rwa [← heq k (by omega) (by omega), hk] at this
  · subst h1
    rw [← hk, ← hk', heq k (by omega) (by omega)]
  · refine absurd hd' ?_
    have := (hr.step k' h1).notDone (hr.inv _ (by omega))
    rwa [heq k' (by omega) (by omega), hk'] at this
theorem Last.inv {S : Sys} {u : Sim} (h : Last S u) : Inv S u := by
  obtain ⟨t, L, C, k, hr, _, hk⟩ := h.run
  exact hk ▸ hr.inv k (Nat.le_refl _)
end Go.Proofs.YtphjffbldhhdiaaGreatDoor
