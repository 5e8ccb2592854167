/- A table while it is turned: how it lies, the boxes beside it. -/
import Derived.Test.YtphjffbldhhdiaaGreatDoorSxTill
namespace Go.Proofs.YtphjffbldhhdiaaGreatDoor
open Go.RowKit

/-- While a table is turned: it lies there, its blocks are its own, boxes of fractions lie behind it. -/
structure TurnS (N B : Nat) (w : World) (S : Sys) (L : Spots) (P : Nat → Rat → Prop) (t : Sim) (wr : World) : Prop where
  n0 : 0 < S.n
  m0 : 0 < S.m
  tab : TabV wr S t L
  mem : TabM B wr S L
  bel : Below B w wr
  box : ∀ g q, P g q → N ≤ g ∧ FAt wr g 0 q
  lp : L.p < N
  lm : L.gm < N
  lx : L.gx < N
  lv : L.gv < N
  lt : L.gt < N
  lc : L.gc < N
  lr : ∀ l, l < S.m → L.row l < N
section
variable {N B : Nat} {w wr w' : World} {S : Sys} {L : Spots} {P : Nat → Rat → Prop} {t : Sim}
theorem TurnS.bsize (h : TurnS N B w S L P t wr) : B ≤ wr.heap.size := Nat.le_trans h.mem.bt (Nat.le_of_lt (show L.gt < wr.heap.size from World.block_lt_of_cell? wr _ (h.tab.told 0 h.m0)))
theorem TurnS.below (h : TurnS N B w S L P t wr) (hb : Below wr.heap.size wr w') : TurnS N B w S L P t w' :=
  { h with tab := h.tab.below hb, mem := h.mem.below h.tab h.n0 h.m0 hb, bel := h.bel.trans (hb.mono h.bsize), box := fun g q hp => ⟨(h.box g q hp).1, (h.box g q hp).2.below hb (Nat.le_refl _)⟩ }
theorem TurnS.drew (h : TurnS N B w S L P t wr) : TurnS N B w S L P t wr.drew := h.below (Below.refl _ _).drew
theorem TurnS.push (h : TurnS N B w S L P t wr) {g : Nat} {q : Rat} (hg : N ≤ g) (hq : FAt wr g 0 q) : TurnS N B w S L (fun g' q' => P g' q' ∨ (g' = g ∧ q' = q)) t wr :=
  { h with box := fun g' q' hp => hp.elim (fun hp => h.box g' q' hp) (fun e => by rw [e.1, e.2]; exact ⟨hg, hq⟩) }
theorem TurnS.sub (h : TurnS N B w S L P t wr) {P' : Nat → Rat → Prop} (hp : ∀ g q, P' g q → P g q) : TurnS N B w S L P' t wr :=
  { h with box := fun g q h' => h.box g q (hp g q h') }
theorem TabV.congr (h : TabV wr S t L) {u : Sim} (h1 : u.told = t.told) (h2 : u.col = t.col) (h3 : u.val = t.val) (h4 : ∀ l c, l < S.m → c < S.n → u.T l c = t.T l c) : TabV wr S u L :=
  { h with val := fun v hv => by rw [h3]; exact h.val v hv, told := fun l hl => by rw [h1]; exact h.told l hl, col := fun c hc => by rw [h2]; exact h.col c hc, T := fun l c hl hc => by rw [h4 l c hl hc]; exact h.T l c hl hc }
theorem TurnS.congr (h : TurnS N B w S L P t wr) {u : Sim} (h1 : u.told = t.told) (h2 : u.col = t.col) (h3 : u.val = t.val) (h4 : ∀ l c, l < S.m → c < S.n → u.T l c = t.T l c) : TurnS N B w S L P u wr :=
  { h with tab := h.tab.congr h1 h2 h3 h4 }
theorem TurnS.mix {X Y : Nat → Nat → Rat} (h : TurnS N B w S L P { t with T := X } wr) (h4 : ∀ l c, l < S.m → c < S.n → Y l c = X l c) : TurnS N B w S L P { t with T := Y } wr := h.congr rfl rfl rfl h4
variable {n m : Bool} {a b : Option Addr} {l0 k0 i0 j0 : Nat} {q : Rat}
theorem TurnS.setVal (h : TurnS N B w S L P t wr) {v : Nat} (hv : v < S.n + S.m) (hq : FracV wr (.agg #[.bool n, .slice a l0 k0, .bool m, .slice b i0 j0]) q) :
    TurnS N B w S L P { t with val := put t.val v q } (put4 wr L.gv (v * 4) (.bool n) (.slice a l0 k0) (.bool m) (.slice b i0 j0)) :=
  { h with
    tab := h.tab.setVal h.mem hv hq
    mem := h.mem.put4 _ _ _ _
    bel := below_put4 h.bel h.mem.bv _ _ _ _
    box := fun g q' hp => ⟨(h.box g q' hp).1, (h.box g q' hp).2.put4 (h.tab.val v hv) (.inl (by have := (h.box g q' hp).1; have := h.lv; omega))⟩ }
theorem TurnS.setT (h : TurnS N B w S L P t wr) {l c : Nat} (hl : l < S.m) (hc : c < S.n) (hq : FracV wr (.agg #[.bool n, .slice a l0 k0, .bool m, .slice b i0 j0]) q) :
    TurnS N B w S L P { t with T := put t.T l (put (t.T l) c q) } (put4 wr (L.row l) (c * 4) (.bool n) (.slice a l0 k0) (.bool m) (.slice b i0 j0)) :=
  { h with
    tab := h.tab.setT h.mem hl hc hq
    mem := h.mem.put4 _ _ _ _
    bel := below_put4 h.bel (h.mem.br l hl) _ _ _ _
    box := fun g q' hp => ⟨(h.box g q' hp).1, (h.box g q' hp).2.put4 (h.tab.T l c hl hc) (.inl (by have := (h.box g q' hp).1; have := h.lr l hl; omega))⟩ }
theorem TurnS.setTold (h : TurnS N B w S L P t wr) {l v : Nat} (hl : l < S.m) : TurnS N B w S L P { t with told := put t.told l v } (wr.setCell ⟨L.gt, l, none⟩ (.int .i64 (v : Int))) :=
  { h with
    tab := h.tab.setTold h.mem hl
    mem := h.mem.set1 _ _
    bel := h.bel.setCell h.mem.bt _
    box := fun g q' hp => ⟨(h.box g q' hp).1, (h.box g q' hp).2.setX (NoDig.of (h.tab.told l hl) (by intro z e; cases e)) (.inl (by have := (h.box g q' hp).1; have := h.lt; show L.gt ≠ g; omega)) _⟩ }
theorem TurnS.setCol (h : TurnS N B w S L P t wr) {c v : Nat} (hc : c < S.n) : TurnS N B w S L P { t with col := put t.col c v } (wr.setCell ⟨L.gc, c, none⟩ (.int .i64 (v : Int))) :=
  { h with
    tab := h.tab.setCol h.mem hc
    mem := h.mem.set1 _ _
    bel := h.bel.setCell h.mem.bc _
    box := fun g q' hp => ⟨(h.box g q' hp).1, (h.box g q' hp).2.setX (NoDig.of (h.tab.col c hc) (by intro z e; cases e)) (.inl (by have := (h.box g q' hp).1; have := h.lc; show L.gc ≠ g; omega)) _⟩ }
end
/-- A box's four cells. -/
theorem FAt.box {w : World} {g : Nat} {q : Rat} (h : FAt w g 0 q) : ∃ (n : Bool) (a : Option Addr) (l k : Nat) (m : Bool) (b : Option Addr) (i j : Nat), w.cell? ⟨g, 0, none⟩ = some (.bool n) ∧ w.cell? ⟨g, 1, none⟩ = some (.slice a l k) ∧ w.cell? ⟨g, 2, none⟩ = some (.bool m) ∧ w.cell? ⟨g, 3, none⟩ = some (.slice b i j) ∧ FracV w (.agg #[.bool n, .slice a l k, .bool m, .slice b i j]) q := by
  obtain ⟨n, a, l, k, m, b, i, j, h0, h1, h2, h3, h4⟩ := h
  exact ⟨n, a, l, k, m, b, i, j, h0, h1, h2, h3, h4⟩
theorem FAt.of {w : World} {g : Nat} {q : Rat} {t : TypeId} {n m : Bool} {a b : Option Addr} {l k i j : Nat} (h : Blk w g t #[.bool n, .slice a l k, .bool m, .slice b i j]) (hq : FracV w (.agg #[.bool n, .slice a l k, .bool m, .slice b i j]) q) : FAt w g 0 q :=
  ⟨n, a, l, k, m, b, i, j, h.c4.1, h.c4.2.1, h.c4.2.2.1, h.c4.2.2.2.1, hq⟩

open Classical in
/-- Times of which some are turned. -/
noncomputable def mixT (T U : Nat → Nat → Rat) (p : Nat → Nat → Prop) : Nat → Nat → Rat := fun l c => if p l c then U l c else T l c
section
variable {T U : Nat → Nat → Rat} {p p' : Nat → Nat → Prop} {l c : Nat}
theorem mixT_yes (h : p l c) : mixT T U p l c = U l c := if_pos h
theorem mixT_no (h : ¬p l c) : mixT T U p l c = T l c := if_neg h
theorem mixT_set (h : ∀ l' c', p' l' c' ↔ (p l' c' ∨ (l' = l ∧ c' = c))) (l' c' : Nat) : mixT T U p' l' c' = put (mixT T U p) l (put (mixT T U p l) c (U l c)) l' c' := by
  unfold put
  by_cases hl : l' = l
  · subst hl
    by_cases hc : c' = c
    · subst hc
      rw [if_pos rfl]
      show _ = if c' = c' then U l' c' else _
      rw [if_pos rfl, mixT_yes ((h l' c').mpr (.inr ⟨rfl, rfl⟩))]
    · rw [if_pos rfl]
      show _ = if c' = c then U l' c else _
      rw [if_neg hc]
      by_cases hp : p l' c'
      · rw [mixT_yes hp, mixT_yes ((h l' c').mpr (.inl hp))]
      · rw [mixT_no hp, mixT_no (fun e => by rcases (h l' c').mp e with e | e; exact hp e; exact hc e.2)]
  · rw [if_neg hl]
    by_cases hp : p l' c'
    · rw [mixT_yes hp, mixT_yes ((h l' c').mpr (.inl hp))]
    · rw [mixT_no hp, mixT_no (fun e => by rcases (h l' c').mp e with e | e; exact hp e; exact hl e.1)]
theorem mixT_skip (h : ∀ l' c', p' l' c' ↔ (p l' c' ∨ (l' = l ∧ c' = c))) (he : U l c = T l c) (l' c' : Nat) : mixT T U p' l' c' = mixT T U p l' c' := by
  by_cases hp : p l' c'
  · rw [mixT_yes hp, mixT_yes ((h l' c').mpr (.inl hp))]
  · rw [mixT_no hp]
    by_cases hq : p' l' c'
    · rw [mixT_yes hq]
      rcases (h l' c').mp hq with e | ⟨rfl, rfl⟩
      · exact absurd e hp
      · exact he
    · rw [mixT_no hq]
theorem mixT_grow (h : ∀ l' c', p l' c' → p' l' c') (he : ∀ l' c', p' l' c' → ¬p l' c' → U l' c' = T l' c') (l' c' : Nat) : mixT T U p' l' c' = mixT T U p l' c' := by
  by_cases hp : p l' c'
  · rw [mixT_yes hp, mixT_yes (h l' c' hp)]
  · rw [mixT_no hp]
    by_cases hq : p' l' c'
    · rw [mixT_yes hq, he l' c' hq hp]
    · rw [mixT_no hq]
end

theorem stepV_zero {t : Sim} {c0 k : Nat} {step : Rat} (h : t.T k c0 = 0) : stepV t c0 step (k + 1) = stepV t c0 step k := by
  funext v
  rw [stepV]
  unfold put
  split
  · rename_i e
    rw [e, h]
    grind
  · rfl
theorem ordQ_ne {p : Rat} (h : p ≠ 0) : ordQ p 0 ≠ 0 := by
  rw [ordQ_eq]
  split
  · decide
  · split
    · decide
    · grind
theorem ordQ_00 {p : Rat} (h : p = 0) : ordQ p 0 = 0 := by rw [h, ordQ_eq]; decide
theorem pivT_row {T : Nat → Nat → Rat} {l0 c0 c : Nat} (h : c ≠ c0) : pivT T l0 c0 l0 c = -(T l0 c / T l0 c0) := by simp [pivT, h]
theorem pivT_one {T : Nat → Nat → Rat} {l0 c0 : Nat} : pivT T l0 c0 l0 c0 = 1 / T l0 c0 := by simp [pivT]
theorem pivT_col {T : Nat → Nat → Rat} {l0 c0 l : Nat} (h : l ≠ l0) : pivT T l0 c0 l c0 = T l c0 * (1 / T l0 c0) := by simp [pivT, h]
theorem pivT_far {T : Nat → Nat → Rat} {l0 c0 l c : Nat} (h : l ≠ l0) (hc : c ≠ c0) : pivT T l0 c0 l c = T l c + T l c0 * (-(T l0 c / T l0 c0)) := by simp [pivT, h, hc]
/-- No turned time is too great. -/
theorem pivT_row_size {T : Nat → Nat → Rat} {l0 c0 c : Nat} {k : Nat} (h1 : Qn k (T l0 c)) (h0 : Qn k (T l0 c0)) (hk : 1 ≤ k) : Qn (2 * k) (pivT T l0 c0 l0 c) := by
  by_cases h : c = c0
  · subst h
    rw [pivT_one]
    exact Qn.mono (Qn.div Qn.one h0) (by omega)
  · rw [pivT_row h]
    exact Qn.mono (Qn.neg (Qn.div h1 h0)) (by omega)
end Go.Proofs.YtphjffbldhhdiaaGreatDoor
