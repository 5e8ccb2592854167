/- How great a table's fractions may be: plain. -/
import Derived.Test.YtphjffbldhhdiaaGreatDoorProg
import Derived.Test.YtphjffbldhhdiaaGreatDoorSxSum
import Derived.Test.YtphjffbldhhdiaaGreatDoorSxTab
import Derived.Test.YtphjffbldhhdiaaGreatDoorSxRun
import Derived.Test.YtphjffbldhhdiaaGreatDoorSxEnd
namespace Go.Proofs.YtphjffbldhhdiaaGreatDoor

/-- A size of fractions. -/
structure Sizes (Z : Nat → Rat → Prop) : Prop where
  zero : Z 1 0
  one : Z 1 1
  mono : ∀ {m n q}, Z m q → m ≤ n → Z n q
  add : ∀ {m n p q}, Z m p → Z n q → Z (m + n + 1) (p + q)
  mul : ∀ {m n p q}, Z m p → Z n q → Z (m + n) (p * q)
  div : ∀ {m n p q}, Z m p → Z n q → Z (m + n) (p / q)
  neg : ∀ {m p}, Z m p → Z m (-p)

theorem pivT_size {Z : Nat → Rat → Prop} (hZ : Sizes Z) {m n k : Nat} {T : Nat → Nat → Rat} {l0 c0 : Nat} (hl : l0 < m) (hc : c0 < n)
    (h : ∀ l c, l < m → c < n → Z k (T l c)) (l c : Nat) (hl' : l < m) (hc' : c < n) : Z (4 * k + 1) (pivT T l0 c0 l c) := by
  unfold pivT
  split <;> split
  · exact hZ.mono (hZ.div hZ.one (h _ _ hl hc)) (by omega)
  · exact hZ.mono (hZ.neg (hZ.div (h _ _ hl hc') (h _ _ hl hc))) (by omega)
  · exact hZ.mono (hZ.mul (h _ _ hl' hc) (hZ.div hZ.one (h _ _ hl hc))) (by omega)
  · exact hZ.mono (hZ.add (h _ _ hl' hc') (hZ.mul (h _ _ hl' hc) (hZ.neg (hZ.div (h _ _ hl hc') (h _ _ hl hc))))) (by omega)

/-- How many of the first k are so. -/
def cnt (p : Nat → Bool) : Nat → Nat
  | 0 => 0
  | k + 1 => cnt p k + if p k then 1 else 0
theorem cnt_le (p : Nat → Bool) : ∀ k, cnt p k ≤ k
  | 0 => Nat.le_refl _
  | k + 1 => by have := cnt_le p k; rw [cnt]; split <;> omega
theorem cnt_zero {p : Nat → Bool} : ∀ {k}, cnt p k = 0 → ∀ i, i < k → p i = false
  | k + 1, h, i, hi => by
    rw [cnt] at h
    rcases Nat.lt_or_ge i k with h1 | h1
    · exact cnt_zero (by omega) i h1
    · obtain rfl : i = k := by omega
      cases hp : p i with
      | false => rfl
      | true => rw [hp] at h; simp at h
theorem cnt_pos {p : Nat → Bool} : ∀ {k d}, cnt p k = d + 1 → ∃ i, i < k ∧ p i = true
  | k + 1, d, h => by
    rw [cnt] at h
    cases hp : p k with
    | true => exact ⟨k, by omega, hp⟩
    | false =>
      rw [hp] at h
      obtain ⟨i, h1, h2⟩ := cnt_pos (p := p) (k := k) (d := d) (by simpa using h)
      exact ⟨i, by omega, h2⟩
theorem cnt_congr {p q : Nat → Bool} : ∀ {k}, (∀ i, i < k → p i = q i) → cnt p k = cnt q k
  | 0, _ => rfl
  | k + 1, h => by rw [cnt, cnt, cnt_congr fun i hi => h i (by omega), h k (by omega)]
theorem cnt_less {p q : Nat → Bool} {u : Nat} : ∀ {k}, u < k → p u = true → q u = false → (∀ i, i < k → i ≠ u → q i = p i) → cnt p k = cnt q k + 1
  | k + 1, hu, h1, h2, h => by
    rw [cnt, cnt]
    rcases Nat.lt_or_ge u k with hk | hk
    · rw [cnt_less hk h1 h2 fun i hi hn => h i (by omega) hn, h k (by omega) (by omega)]
      omega
    · obtain rfl : u = k := by omega
      rw [cnt_congr (p := p) (q := q) fun i hi => (h i (by omega) (by omega)).symm, h1, h2]
      simp

open Classical in
/-- u stands in no column. -/
noncomputable def outB (S : Sys) (col : Nat → Nat) (u : Nat) : Bool := !decide (∃ c, c < S.n ∧ col c = u)
theorem outB_true {S : Sys} {col : Nat → Nat} {u : Nat} : outB S col u = true ↔ ¬∃ c, c < S.n ∧ col c = u := by simp [outB]
theorem outB_false {S : Sys} {col : Nat → Nat} {u : Nat} : outB S col u = false ↔ ∃ c, c < S.n ∧ col c = u := by simp [outB]

/-- The size after so many turns. -/
def szB (s : Nat) : Nat → Nat
  | 0 => s
  | d + 1 => 4 * szB s d + 1
theorem szB_mono {s : Nat} : ∀ {d e : Nat}, d ≤ e → szB s d ≤ szB s e
  | d, e, h => by
    induction e with
    | zero => obtain rfl : d = 0 := by omega
              exact Nat.le_refl _
    | succ e ih =>
      rcases Nat.lt_or_ge d (e + 1) with h1 | h1
      · have := ih (by omega); rw [show szB s (e + 1) = 4 * szB s e + 1 from rfl]; omega
      · obtain rfl : d = e + 1 := by omega
        exact Nat.le_refl _

def unit (k : Nat) : Nat → Rat := fun c => if c = k then 1 else 0
theorem unit_at (k : Nat) : unit k k = 1 := if_pos rfl
theorem unit_else {k c : Nat} (h : c ≠ k) : unit k c = 0 := if_neg h

/-- Where all unknowns stand in columns, nothing else does. -/
theorem all_in {S : Sys} {col : Nat → Nat} (h : ∀ u, u < S.n → ∃ c, c < S.n ∧ col c = u) {c : Nat} (hc : c < S.n) : col c < S.n := by
  refine Classical.byContradiction fun hno => ?_
  have hx : ∀ u, ∃ c', c' < S.n ∧ (u < S.n → col c' = u) ∧ (¬u < S.n → c' = c) := fun u => by
    by_cases hu : u < S.n
    · obtain ⟨c', h1, h2⟩ := h u hu
      exact ⟨c', h1, fun _ => h2, fun hh => absurd hu hh⟩
    · exact ⟨c, hc, fun hh => absurd hh hu, fun _ => rfl⟩
  let f := fun u => Classical.choose (hx u)
  have hf := fun u => Classical.choose_spec (hx u)
  obtain ⟨i, j, hij, hj, he⟩ := pigeon S.n f (fun i _ => (hf i).1)
  have hi := (hf i).2.1 (by omega)
  rcases Nat.lt_or_ge j S.n with h1 | h1
  · have := (hf j).2.1 h1
    have he' : Classical.choose (hx i) = Classical.choose (hx j) := he
    rw [he'] at hi
    omega
  · have := (hf j).2.2 (by omega)
    have he' : Classical.choose (hx i) = Classical.choose (hx j) := he
    rw [he', this] at hi
    omega

theorem table_size {Z : Nat → Rat → Prop} (hZ : Sizes Z) {S : Sys} {s : Nat} (hA : ∀ i c, i < S.m → c < S.n → Z s (S.A i c)) :
    ∀ (d : Nat) {told col : Nat → Nat} {T : Nat → Nat → Rat}, Places S told col → Tells S told col T → cnt (outB S col) S.n = d → ∀ l c, l < S.m → c < S.n → Z (szB s d) (T l c)
  | 0, told, col, T, hp, ht, hd, l, c, hl, hc => by
    have hall : ∀ u, u < S.n → ∃ c, c < S.n ∧ col c = u := fun u hu => outB_false.mp (cnt_zero hd u hu)
    have hcol : ∀ c, c < S.n → col c < S.n := fun c hc => all_in hall hc
    have htold : S.n ≤ told l := by
      refine Classical.byContradiction fun hno => ?_
      obtain ⟨c', h1, h2⟩ := hall (told l) (by omega)
      exact hp.apart l c' hl h1 h2.symm
    have hlt := hp.toldLt l hl
    have h1 := (ht _).mp (S.ext_rel (unit (col c))) l hl
    rw [sumR_one hc (fun c' hc' hne => by
      rw [S.ext_lo _ (hcol c' hc'), unit_else (fun he => hne (hp.colInj _ _ hc' hc he))]
      grind), S.ext_lo _ (hcol c hc), unit_at, Sys.ext, if_neg (by omega), sumR_one (hcol c hc) (fun c' _ hne => by rw [unit_else hne]; grind), unit_at] at h1
    have h2 : T l c = S.A (told l - S.n) (col c) := by grind
    rw [h2]
    exact hA _ _ (by omega) (hcol c hc)
  | d + 1, told, col, T, hp, ht, hd, l, c, hl, hc => by
    obtain ⟨u, hu, ho⟩ := cnt_pos hd
    have ho' := outB_true.mp ho
    obtain ⟨l0, hl0, he0⟩ : ∃ l, l < S.m ∧ told l = u := by
      rcases hp.all u (by omega) with h | h
      · exact h
      · exact absurd h ho'
    obtain ⟨c0, hc0, hge, hne⟩ : ∃ c0, c0 < S.n ∧ S.n ≤ col c0 ∧ T l0 c0 ≠ 0 := by
      refine Classical.byContradiction fun hno => ?_
      have h1 := (ht _).mp (S.ext_rel (unit u)) l0 hl0
      rw [he0, S.ext_lo _ hu, unit_at, sumR_congr (g := fun _ => 0) (fun c' hc' => by
        rcases Nat.lt_or_ge (col c') S.n with h2 | h2
        · rw [S.ext_lo _ h2, unit_else (fun he => ho' ⟨c', hc', he⟩)]
          grind
        · have h3 : T l0 c' = 0 := Classical.byContradiction fun h3 => hno ⟨c', hc', h2, h3⟩
          rw [h3]
          grind), sumR_zero] at h1
      exact absurd h1 (by decide)
    have hp' := hp.turn hl0 hc0
    have ht' := ht.turn hl0 hc0 hne
    have hd' : cnt (outB S (put col c0 (told l0))) S.n = d := by
      have h1 : cnt (outB S col) S.n = cnt (outB S (put col c0 (told l0))) S.n + 1 := by
        refine cnt_less hu ho (outB_false.mpr ⟨c0, hc0, by rw [put_at, he0]⟩) fun i hi hne' => ?_
        have : (∃ c, c < S.n ∧ put col c0 (told l0) c = i) ↔ ∃ c, c < S.n ∧ col c = i := by
          constructor
          · rintro ⟨c', h1, h2⟩
            by_cases hh : c' = c0
            · rw [hh, put_at, he0] at h2
              omega
            · rw [put_else _ _ hh] at h2
              exact ⟨c', h1, h2⟩
          · rintro ⟨c', h1, h2⟩
            have hh : c' ≠ c0 := fun hh => by rw [hh] at h2; omega
            exact ⟨c', h1, by rw [put_else _ _ hh, h2]⟩
        simp only [outB, this]
      omega
    have ih := table_size hZ hA d hp' ht' hd'
    have h1 := pivT_size hZ hl0 hc0 ih l c hl hc
    rw [pivT_pivT hne] at h1
    exact h1
/-- No table's times are greater than so. -/
theorem Inv.size {Z : Nat → Rat → Prop} (hZ : Sizes Z) {S : Sys} {t : Sim} {s : Nat} (hA : ∀ i c, i < S.m → c < S.n → Z s (S.A i c)) (h : Inv S t) {l c : Nat} (hl : l < S.m) (hc : c < S.n) : Z (szB s S.n) (t.T l c) :=
  hZ.mono (table_size hZ hA _ h.at' h.tells rfl l c hl hc) (szB_mono (cnt_le _ _))

theorem sumR_size {Z : Nat → Rat → Prop} (hZ : Sizes Z) {k : Nat} {f : Nat → Rat} : ∀ n, (∀ i, i < n → Z k (f i)) → Z (n * (k + 1) + 1) (sumR n f)
  | 0, _ => by rw [Nat.zero_mul]; exact hZ.zero
  | n + 1, h => by
    rw [sumR]
    exact hZ.mono (hZ.add (sumR_size hZ n fun i hi => h i (by omega)) (h n (by omega))) (by rw [Nat.add_mul, Nat.one_mul]; omega)
/-- No table's values are. -/
theorem Inv.valSize {Z : Nat → Rat → Prop} (hZ : Sizes Z) {S : Sys} {t : Sim} {s M : Nat} (hA : ∀ i c, i < S.m → c < S.n → Z s (S.A i c)) (hM : ∀ i, i < S.m → Z M (S.most i)) (h1 : 1 ≤ M) (h : Inv S t) {v : Nat} (hv : v < S.n + S.m) :
    Z (S.n * (szB s S.n + M + 1) + M + 1) (t.val v) := by
  have hcol : ∀ c, c < S.n → Z M (t.val (t.col c)) := fun c hc => by
    rcases Nat.lt_or_ge (t.col c) S.n with h2 | h2
    · rw [h.lo c hc h2]
      exact hZ.mono hZ.zero h1
    · rw [h.hi c hc h2]
      have := h.at'.colLt c hc
      exact hM _ (by omega)
  rcases h.at'.all v hv with ⟨l, h2, h3⟩ | ⟨c, h2, h3⟩
  · rw [← h3, (h.tells _).mp h.rel l h2]
    exact hZ.mono (sumR_size hZ (k := szB s S.n + M) S.n fun c hc => hZ.mul (h.size hZ hA h2 hc) (hcol c hc)) (by omega)
  · rw [← h3]
    exact hZ.mono (hcol c h2) (by omega)
end Go.Proofs.YtphjffbldhhdiaaGreatDoor
