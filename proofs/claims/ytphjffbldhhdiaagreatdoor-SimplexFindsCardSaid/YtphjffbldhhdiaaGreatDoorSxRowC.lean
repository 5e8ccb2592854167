/- Rows of fractions that grow; rows that are scaled: plain, and in memory. -/
import Derived.Test.YtphjffbldhhdiaaGreatDoorSxGrow
import Derived.Test.YtphjffbldhhdiaaGreatDoorSxSz
namespace Go.Proofs.YtphjffbldhhdiaaGreatDoor
open Go.RowKit

/-- Rows, taken so many times each, the last one first. -/
def scS (S : Sys) (q : Nat → Rat) (j : Nat) : Sys where
  n := S.n
  m := j
  A := fun i c => q (j - 1 - i) * S.A (j - 1 - i) c
  most := fun i => q (j - 1 - i) * S.most (j - 1 - i)
theorem scS_sum (S : Sys) (q x : Nat → Rat) (j i : Nat) : (sumR S.n fun c => (scS S q j).A i c * x c) = q (j - 1 - i) * sumR S.n fun c => S.A (j - 1 - i) c * x c := by
  rw [← sumR_mul]
  exact sumR_congr fun c _ => by
    show q (j - 1 - i) * S.A (j - 1 - i) c * x c = _
    grind
theorem scS_fits {S : Sys} {q x : Nat → Rat} (hq : ∀ i, i < S.m → 0 < q i) : (scS S q S.m).Fits x ↔ S.Fits x := by
  constructor
  · intro h i hi
    have h1 := h (S.m - 1 - i) (by show S.m - 1 - i < S.m; omega)
    change (sumR S.n fun c => (scS S q S.m).A (S.m - 1 - i) c * x c) ≤ q (S.m - 1 - (S.m - 1 - i)) * S.most (S.m - 1 - (S.m - 1 - i)) at h1
    rw [scS_sum, show S.m - 1 - (S.m - 1 - i) = i from by omega] at h1
    refine Classical.byContradiction fun hno => ?_
    have h2 := Rat.mul_lt_mul_of_pos_left (show S.most i < sumR S.n fun c => S.A i c * x c by grind) (hq i hi)
    grind
  · intro h i hi
    have hi' : i < S.m := hi
    show (sumR S.n fun c => (scS S q S.m).A i c * x c) ≤ q (S.m - 1 - i) * S.most (S.m - 1 - i)
    rw [scS_sum]
    have h1 := h (S.m - 1 - i) (by omega)
    have h2 := hq (S.m - 1 - i) (by omega)
    exact Rat.mul_le_mul_of_nonneg_left h1 (by grind)
theorem scS_put {S : Sys} {q : Nat → Rat} {j : Nat} {p : Rat} {i : Nat} (hi : i < j) : (∀ c, (scS S (put q j p) (j + 1)).A (i + 1) c = (scS S q j).A i c) ∧ (scS S (put q j p) (j + 1)).most (i + 1) = (scS S q j).most i := by
  have e : j + 1 - 1 - (i + 1) = j - 1 - i := by omega
  have hne : j - 1 - i ≠ j := by omega
  refine ⟨fun c => ?_, ?_⟩
  · show put q j p (j + 1 - 1 - (i + 1)) * S.A (j + 1 - 1 - (i + 1)) c = q (j - 1 - i) * S.A (j - 1 - i) c
    rw [e, put_else _ _ hne]
  · show put q j p (j + 1 - 1 - (i + 1)) * S.most (j + 1 - 1 - (i + 1)) = q (j - 1 - i) * S.most (j - 1 - i)
    rw [e, put_else _ _ hne]
theorem scS_head {S : Sys} {q : Nat → Rat} {j : Nat} {p : Rat} : (∀ c, (scS S (put q j p) (j + 1)).A 0 c = p * S.A j c) ∧ (scS S (put q j p) (j + 1)).most 0 = p * S.most j := by
  refine ⟨fun c => ?_, ?_⟩
  · show put q j p j * S.A j c = p * S.A j c
    rw [put_at]
  · show put q j p j * S.most j = p * S.most j
    rw [put_at]

/-- The first c of a row of fractions that the call owns. -/
def RowC (w : World) (N : Nat) (v : Value) (c : Nat) (f : Nat → Rat) : Prop := ∃ xs, w.ownsRow N 39 4 v c xs ∧ (∀ g, v.ownBlock = some g → Calm w g) ∧ ∀ g, v.ownBlock = some g → ∀ i, i < c → FAt w g (i * 4) (f i)
section
variable {w w' : World} {N c : Nat} {v v' : Value} {f : Nat → Rat}
theorem RowC.nil (w : World) (N : Nat) (f : Nat → Rat) : RowC w N (.slice none 0 0) 0 f := ⟨[], World.ownsRow_nil _ _ _ _, (fun g h => by cases h), (fun g h => by cases h)⟩
theorem RowC.below (h : RowC w N v c f) (hb : Below w.heap.size w w') : RowC w' N v c f := by
  obtain ⟨xs, h1, h2, h3⟩ := h
  exact ⟨xs, own_stays h1 (fun g hg => hb.block g (h1.lt g hg).2), fun g hg => (h2 g hg).below hb (h1.lt g hg).2, fun g hg i hi => (h3 g hg i hi).below hb (Nat.le_refl _)⟩
theorem RowC.lt (h : RowC w N v c f) : ∀ g, v.ownBlock = some g → N ≤ g ∧ g < w.heap.size := by
  obtain ⟨xs, h1, _, _⟩ := h
  exact h1.lt
theorem RowC.form (h : RowC w N v c f) : ∃ a k, v = .slice a c k ∧ Fit a c k ∧ (0 < c → ∃ g, a = some ⟨g, 0, none⟩ ∧ N ≤ g ∧ ∀ i, i < c → FAt w g (i * 4) (f i)) := by
  obtain ⟨xs, h1, _, h3⟩ := h
  rcases h1.2 with ⟨rfl, h0⟩ | ⟨g, cap, cur, rfl, hg, _, hle, _⟩
  · exact ⟨none, 0, by rw [h0], ⟨by omega, fun _ => rfl⟩, fun h => by omega⟩
  · exact ⟨some ⟨g, 0, none⟩, cap, rfl, ⟨hle, fun h => by cases h⟩, fun _ => ⟨g, rfl, hg, h3 g rfl⟩⟩
theorem RowC.grow {xs : List Value} {n m : Bool} {a b : Option Addr} {l k i j : Nat} (h1 : w.ownsRow N 39 4 v c xs) (h2 : ∀ g, v.ownBlock = some g → Calm w g) (h3 : ∀ g, v.ownBlock = some g → ∀ i, i < c → FAt w g (i * 4) (f i))
    (hown : w'.ownsRow N 39 4 v' (c + 1) (xs ++ [.bool n, .slice a l k, .bool m, .slice b i j])) (hgrow : w.grownBy w' v.ownBlock) (hcalm : ∀ g, v'.ownBlock = some g → Calm w' g) (hq : FracV w (.agg #[.bool n, .slice a l k, .bool m, .slice b i j]) (f c)) : RowC w' N v' (c + 1) f := by
  refine ⟨_, hown, hcalm, fun g' hg' i' hi' => ?_⟩
  have hxl : xs.length = c * 4 := h1.1
  have hcell := hown.cells hg'
  rcases Nat.lt_or_ge i' c with hlt | hge
  · rcases h1.2 with ⟨_, h0⟩ | ⟨g, cap, cur, rfl, _, hgb, _, _, _, ht⟩
    · omega
    · refine (h3 g rfl i' hlt).moved hgrow h2 (fun d u hd hu => ?_)
      have hx : xs[i' * 4 + d]? = some u := by
        rw [Blk.cell (t := 39) (cs := cur) hgb] at hu
        rw [← ht, List.getElem?_take_of_lt (by omega)]
        simpa using hu
      have := hcell (i' * 4 + d) u (by rw [List.getElem?_append_left (by omega)]; exact hx)
      rw [add_plain, Nat.zero_add] at this
      exact this
  · obtain rfl : i' = c := by omega
    have hc : ∀ d u, [Value.bool n, .slice a l k, .bool m, .slice b i j][d]? = some u → w'.cell? ⟨g', i' * 4 + d, none⟩ = some u := fun d u hu => by
      have := hcell (i' * 4 + d) u (by rw [List.getElem?_append_right (by omega), show i' * 4 + d - xs.length = d from by omega]; exact hu)
      rw [add_plain, Nat.zero_add] at this
      exact this
    exact ⟨n, a, l, k, m, b, i, j, hc 0 _ rfl, hc 1 _ rfl, hc 2 _ rfl, hc 3 _ rfl, hq.grown hgrow h2⟩
theorem RowC.setX (h : RowC w N v c f) {p : Addr} (hp : p.block < N) (hnd : NoDig w p) (u : Value) : RowC (w.setCell p u) N v c f := by
  obtain ⟨xs, h1, h2, h3⟩ := h
  refine ⟨xs, own_stays h1 (fun g hg => Below.heap_setCell w p u g (by have := (h1.lt g hg).1; omega)), fun g hg i z e => ?_, fun g hg i hi => (h3 g hg i hi).setX hnd (.inl (by have := (h1.lt g hg).1; omega)) u⟩
  have hne : p ≠ ⟨g, i, none⟩ := fun e => by have := (h1.lt g hg).1; rw [e] at hp; simp at hp; omega
  rw [World.cell?_setCell_other _ _ _ _ hne] at e
  exact h2 g hg i z e
end

theorem infoRw : (Tryz.prog.info? 43).map (fun i => (i.zero, i.size, i.bytes)) = some (some (.agg #[.slice none 0 0, .bool false, .slice none 0 0, .bool false, .slice none 0 0]), 5, 88) := by kernel_rfl
/-- The cells of rows. -/
theorem RowsV.cells {w : World} {b o : Nat} {S : Sys} (h : RowsV w b o S) : ∃ news : List Value, news.length = S.m * 5 ∧ (∀ i, i < S.m * 5 → news[i]? = w.cell? ⟨b, o + i, none⟩) ∧ (∀ j u, news[j]? = some u → w.cell? ((⟨b, o, none⟩ : Addr).add j) = some u) ∧ (∀ u ∈ news, u.oneCell' = true) ∧ ∀ u ∈ news, NoU u := by
  have hx : ∀ i, i < S.m * 5 → ∃ u, w.cell? ⟨b, o + i, none⟩ = some u ∧ u.oneCell' = true ∧ NoU u := fun i hi => by
    obtain ⟨ra, rk, c0, _, _, hm⟩ := h (i / 5) (by omega)
    obtain ⟨n, a, l, k, m, a2, l2, k2, h0, h1, h2, h3, _⟩ := hm
    have key : ∀ d, d < 5 → ∃ u, w.cell? ⟨b, o + i / 5 * 5 + d, none⟩ = some u ∧ u.oneCell' = true ∧ NoU u := fun d hd => by
      match d, hd with
      | 0, _ => exact ⟨_, c0, rfl, NoU.slice _ _ _⟩
      | 1, _ => exact ⟨_, h0, rfl, NoU.bool _⟩
      | 2, _ => exact ⟨_, h1, rfl, NoU.slice _ _ _⟩
      | 3, _ => exact ⟨_, h2, rfl, NoU.bool _⟩
      | 4, _ => exact ⟨_, h3, rfl, NoU.slice _ _ _⟩
    have h5 := key (i % 5) (by omega)
    rwa [show o + i / 5 * 5 + i % 5 = o + i from by omega] at h5
  obtain ⟨l, hl, hl2⟩ := exists_list (S.m * 5) hx
  refine ⟨l, hl, fun i hi => ?_, fun j u hj => ?_, fun u hu => ?_, fun u hu => ?_⟩
  · have hi' : i < l.length := by omega
    rw [List.getElem?_eq_getElem hi', (hl2 i hi').1]
  · have hlt : j < l.length := (List.getElem?_eq_some_iff.1 hj).1
    rw [List.getElem?_eq_getElem hlt] at hj
    obtain rfl := Option.some.inj hj
    rw [add_plain]
    exact (hl2 j hlt).1
  · obtain ⟨j, hj, rfl⟩ := List.mem_iff_getElem.1 hu
    exact (hl2 j hj).2.1
  · obtain ⟨j, hj, rfl⟩ := List.mem_iff_getElem.1 hu
    exact (hl2 j hj).2.2
/-- A row ahead of the others. -/
theorem rows_cons {wb w' : World} {S : Sys} {q : Nat → Rat} {p : Rat} {j go gb B : Nat} {v' va : Value} {n m : Bool} {a b : Option Addr} {l k i0 j0 : Nat} {news : List Value} (hgb : wb.heap.size = gb)
    (hT : ∃ a k, va = .slice a S.n k ∧ Fit a S.n k ∧ (0 < S.n → ∃ g, a = some ⟨g, 0, none⟩ ∧ ∀ i, i < S.n → FAt wb g (i * 4) (p * S.A j i))) (hm : FracV wb (.agg #[.bool n, .slice a l k, .bool m, .slice b i0 j0]) (p * S.most j))
    (hO : RowsV wb go 0 (scS S q j)) (hnl : news.length = j * 5) (hnw : ∀ i, i < j * 5 → news[i]? = wb.cell? ⟨go, 0 + i, none⟩)
    (hown : w'.ownsRow B 43 5 v' (1 + j) ([va, .bool n, .slice a l k, .bool m, .slice b i0 j0] ++ news))
    (hgrow : (wb.alloc (.cells #[va, .bool n, .slice a l k, .bool m, .slice b i0 j0] 43)).grownBy w' (some gb)) :
    ∃ g' c', v' = .slice (some ⟨g', 0, none⟩) (1 + j) c' ∧ RowsV w' g' 0 (scS S (put q j p) (j + 1)) := by
  obtain ⟨xa, xc, rfl⟩ := own_slice hown
  obtain ⟨g', cs, rfl, _, hblk, hcs⟩ := own_cells hown (by omega)
  obtain ⟨ta, tk, rfl, hfit, hrow⟩ := hT
  refine ⟨g', xc, rfl, ?_⟩
  have hb : Below wb.heap.size wb (wb.alloc (.cells #[.slice ta S.n tk, .bool n, .slice a l k, .bool m, .slice b i0 j0] 43)) := (Below.refl _ _).alloc (Nat.le_refl _) _
  have hcalm : ∀ g, some gb = some g → Calm (wb.alloc (.cells #[.slice ta S.n tk, .bool n, .slice a l k, .bool m, .slice b i0 j0] 43)) g := fun g e => by
    obtain rfl := Option.some.inj e
    rw [← hgb]
    refine Calm.of (Blk.new wb _ _) (fun u hu => ?_)
    simp only [List.mem_toArray, List.mem_cons, List.not_mem_nil, or_false] at hu
    rcases hu with rfl | rfl | rfl | rfl | rfl
    · exact NoU.slice _ _ _
    · exact NoU.bool _
    · exact NoU.slice _ _ _
    · exact NoU.bool _
    · exact NoU.slice _ _ _
  have hfar : ∀ {g o : Nat} {f : Rat}, FAt wb g o f → FAt w' g o f := fun {g o f} h => (h.below hb (Nat.le_refl _)).grown hgrow (by have := h.lt; intro e; have := Option.some.inj e; omega) hcalm
  have hcell : ∀ d u, ([Value.slice ta S.n tk, .bool n, .slice a l k, .bool m, .slice b i0 j0] ++ news)[d]? = some u → w'.cell? ⟨g', d, none⟩ = some u := fun d u hu => by
    have hlt : d < (1 + j) * 5 := by
      have := (List.getElem?_eq_some_iff.1 hu).1
      rw [List.length_append, hnl] at this
      simp at this
      omega
    rw [hblk.cell, hcs d hlt]
    exact hu
  intro i hi
  have hi' : i < j + 1 := hi
  match i, hi' with
  | 0, _ =>
    refine ⟨ta, tk, hcell 0 _ rfl, hfit, fun hn => ?_, ?_⟩
    · obtain ⟨g, rfl, hF⟩ := hrow hn
      refine ⟨g, 0, rfl, fun c hc => ?_⟩
      rw [Nat.zero_add, scS_head.1 c]
      exact hfar (hF c hc)
    · rw [scS_head.2]
      exact ⟨n, a, l, k, m, b, i0, j0, hcell 1 _ rfl, hcell 2 _ rfl, hcell 3 _ rfl, hcell 4 _ rfl, (hm.below hb (Nat.le_refl _)).grown hgrow hcalm⟩
  | i + 1, hi' =>
    have hij : i < j := by omega
    obtain ⟨ra, rk, c0, rfit, rrow, rmost⟩ := hO i hij
    have hold : ∀ d u, d < 5 → wb.cell? ⟨go, 0 + i * 5 + d, none⟩ = some u → w'.cell? ⟨g', (i + 1) * 5 + d, none⟩ = some u := fun d u hd hu => by
      refine hcell _ u ?_
      rw [List.getElem?_append_right (by simp; omega), show (i + 1) * 5 + d - [Value.slice ta S.n tk, .bool n, .slice a l k, .bool m, .slice b i0 j0].length = i * 5 + d from by simp; omega, hnw _ (by omega), ← hu, Nat.add_assoc]
    refine ⟨ra, rk, ?_, rfit, fun hn => ?_, ?_⟩
    · have := hold 0 _ (by decide) c0
      rwa [Nat.zero_add]
    · obtain ⟨rb, ro, rfl, hF⟩ := rrow hn
      refine ⟨rb, ro, rfl, fun c hc => ?_⟩
      rw [(scS_put hij).1 c]
      exact hfar (hF c hc)
    · rw [(scS_put hij).2]
      obtain ⟨n1, a1, l1, k1, m1, b1, i1, j1, h0, h1, h2, h3, h4⟩ := rmost
      have e : 0 + (i + 1) * 5 = (i + 1) * 5 := Nat.zero_add _
      rw [e]
      exact ⟨n1, a1, l1, k1, m1, b1, i1, j1, hold 1 _ (by decide) h0, hold 2 _ (by decide) h1, hold 3 _ (by decide) h2, hold 4 _ (by decide) h3, (h4.below hb (Nat.le_refl _)).grown hgrow hcalm⟩
theorem zeroF_calm : ∀ u ∈ zeroF.cells, NoU u := fun u hu => by
  simp only [zeroF, Value.cells, List.mem_toArray, List.mem_cons, List.not_mem_nil, or_false] at hu
  rcases hu with rfl | rfl | rfl | rfl
  · exact NoU.bool _
  · exact NoU.slice _ _ _
  · exact NoU.bool _
  · exact NoU.slice _ _ _
theorem four_calm (n : Bool) (a : Option Addr) (l k : Nat) (m : Bool) (b : Option Addr) (i j : Nat) : ∀ u ∈ [Value.bool n, .slice a l k, .bool m, .slice b i j], NoU u := fun u hu => by
  simp only [List.mem_cons, List.not_mem_nil, or_false] at hu
  rcases hu with rfl | rfl | rfl | rfl
  · exact NoU.bool _
  · exact NoU.slice _ _ _
  · exact NoU.bool _
  · exact NoU.slice _ _ _
theorem noDig_row {w : World} {g : Nat} {t : TypeId} {v p q r s : Value} {c : Nat} {P : Option Addr → Nat → Prop} (h : Blk w g t #[v, p, q, r, s]) (hv : ∃ a k, v = .slice a c k ∧ P a k) : NoDig w ⟨g, 0, none⟩ := by
  obtain ⟨a, k, rfl, _⟩ := hv
  exact NoDig.of (h.cell 0) (by intro z e; cases e)
end Go.Proofs.YtphjffbldhhdiaaGreatDoor
