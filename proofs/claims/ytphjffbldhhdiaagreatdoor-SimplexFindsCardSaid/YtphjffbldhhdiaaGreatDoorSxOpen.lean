/- Rows and fractions that came in, opened. -/
import Derived.Test.YtphjffbldhhdiaaGreatDoorSxLaw
import Derived.Deep.Slices
import Derived.Deep.Fields
namespace Go.Proofs.YtphjffbldhhdiaaGreatDoor
open Go.ChangeShapes Go.WideShapes Go.ChangeAt Go.RowKit

theorem cellsR : Tryz.prog.cellsOf 43 = 5 := by kernel_rfl
theorem cellsS : Tryz.prog.cellsOf 25 = 1 := by kernel_rfl
set_option maxRecDepth 100000 in
/-- A fraction's four cells. -/
theorem open_four {H : Type} {enc : TypeId × Value → H} {W : World} {n : Nat} {c0 c1 c2 c3 : Value} {y : DataW H × List MemPlace} (h : DataW.trod enc Tryz.prog W 0 (fun _ => true) true n 39 [c0, c1, c2, c3] = some y) :
    ∃ R : RFr, c0 = .bool R.up.neg ∧ c1 = .slice R.up.at_ R.up.ds.length R.up.cap ∧ c2 = .bool R.dn.neg ∧ c3 = .slice R.dn.at_ R.dn.ds.length R.dn.cap ∧ RFrOk W R := by
  obtain ⟨y0, y1, m, _, _, h0, h1⟩ := Go.ChangeShapes.trod_struct2 Tryz.underlying39 h
  have h0' : DataW.trod enc Tryz.prog W 0 (fun _ => true) true m 37 [c0, c1] = some y0 := by
    have h := h0
    simpa [Value.cells, cellsI] using h
  have h1' : DataW.trod enc Tryz.prog W 0 (fun _ => true) true m 37 [c2, c3] = some y1 := by
    have h := h1
    simpa [Value.cells, cellsI] using h
  obtain ⟨R, rfl, rfl, hR⟩ := open_two h0'
  obtain ⟨S, rfl, rfl, hS⟩ := open_two h1'
  exact ⟨⟨R, S⟩, rfl, rfl, rfl, rfl, ⟨hR, hS⟩⟩
set_option maxRecDepth 100000 in
/-- A slice of fractions that came in. -/
theorem open_list {H : Type} {enc : TypeId × Value → H} {W : World} {n : Nat} {v : Value} {y : DataW H × List MemPlace} (h : DataW.trod enc Tryz.prog W 0 (fun _ => true) true n 25 [v] = some y) :
    ∃ (a : Option Addr) (cap : Nat) (xs : List RFr), v = .slice a xs.length cap ∧ Fit a xs.length cap ∧ cap ≤ maxLen ∧ ListAt W a xs := by
  rcases Go.Deep.open_slice Tryz.underlying25 h with ⟨hcs, _⟩ | ⟨a, len, cap, m, n, D, Pl, hcs, _, hl, hm, hmm, _, hi⟩
  · simp at hcs
    subst hcs
    exact ⟨none, 0, [], rfl, ⟨Nat.le_refl _, fun _ => rfl⟩, by unfold maxLen; omega, fun h => by simp at h⟩
  · simp at hcs
    subst hcs
    simp only [if_true] at hmm
    rw [cellsF] at hi
    have key : ∀ i, i < len → ∃ R : RFr, W.cell? (a.add (i * 4)) = some (.bool R.up.neg) ∧ W.cell? (a.add (i * 4 + 1)) = some (.slice R.up.at_ R.up.ds.length R.up.cap) ∧ W.cell? (a.add (i * 4 + 2)) = some (.bool R.dn.neg) ∧ W.cell? (a.add (i * 4 + 3)) = some (.slice R.dn.at_ R.dn.ds.length R.dn.cap) ∧ RFrOk W R := by
      intro i him
      obtain ⟨cs', hc, ht'⟩ := hi i (by omega)
      obtain ⟨_, hcl, hat⟩ := World.cells?_some hc
      match cs', hcl with
      | [c0, c1, c2, c3], _ =>
        obtain ⟨R, rfl, rfl, rfl, rfl, hR⟩ := open_four ht'
        have a0' := hat 0 (by decide)
        have a1' := hat 1 (by decide)
        have a2' := hat 2 (by decide)
        have a3' := hat 3 (by decide)
        rw [Go.Deep.add_add] at a0' a1' a2' a3'
        simp at a0' a1' a2' a3'
        exact ⟨R, a0', a1', a2', a3', hR⟩
    obtain ⟨xs, h1, h2⟩ := exists_list len key
    refine ⟨some a, cap, xs, by rw [h1], ⟨by rw [h1]; exact hl, fun h => by cases h⟩, hm, fun h0 => ?_⟩
    have hx0 := (h2 0 h0).1
    have hx : a = ⟨a.block, a.off, none⟩ := spot_none (by simpa [Addr.add] using hx0)
    refine ⟨a.block, a.off, by rw [← hx], fun i hi' => ?_⟩
    obtain ⟨g0, g1, g2, g3, g4⟩ := h2 i hi'
    rw [hx, add_plain] at g0 g1 g2 g3
    refine ⟨g0, by rw [Nat.add_assoc]; exact g1, by rw [Nat.add_assoc]; exact g2, by rw [Nat.add_assoc]; exact g3, g4⟩
set_option maxRecDepth 100000 in
/-- Rows that came in. -/
theorem open_rows {H : Type} {enc : TypeId × Value → H} {W : World} {b0 : Nat} {r : Reach} {v : Value} {d : DataW H} {p : List MemPlace} (hv : Value.okWide Tryz.prog W r b0 22 v) (h : DataW.Trod enc Tryz.prog W 0 (fun _ => true) true 22 v d p) :
    ∃ (a : Option Addr) (cap : Nat) (rs : List RRow), v = .slice a rs.length cap ∧ RowsAt W a rs ∧ (rs.length = 0 ∨ ∃ elems spare, d = .slice elems spare ∧ elems.length = rs.length) := by
  obtain ⟨a0, len0, cap0, rfl⟩ := okWide_slice Tryz.underlying22 hv
  obtain ⟨fuel, hf⟩ := h
  rcases Go.Deep.open_slice Tryz.underlying22 hf with ⟨hcs, _⟩ | ⟨a, len, cap, m, n, D, Pl, hcs, _, hl, hm, hmm, hxx, hi⟩
  · simp [Value.cells] at hcs
    obtain ⟨rfl, rfl, rfl⟩ := hcs
    exact ⟨none, 0, [], rfl, fun h => by simp at h, .inl rfl⟩
  · simp [Value.cells] at hcs
    obtain ⟨rfl, rfl, rfl⟩ := hcs
    simp only [if_true] at hmm
    rw [cellsR] at hi
    have key : ∀ i, i < len0 → ∃ r : RRow, W.cell? (a.add (i * 5)) = some (.slice r.at_ r.xs.length r.cap) ∧ Fit r.at_ r.xs.length r.cap ∧ ListAt W r.at_ r.xs ∧ W.cell? (a.add (i * 5 + 1)) = some (.bool r.most.up.neg) ∧ W.cell? (a.add (i * 5 + 2)) = some (.slice r.most.up.at_ r.most.up.ds.length r.most.up.cap) ∧ W.cell? (a.add (i * 5 + 3)) = some (.bool r.most.dn.neg) ∧ W.cell? (a.add (i * 5 + 4)) = some (.slice r.most.dn.at_ r.most.dn.ds.length r.most.dn.cap) ∧ RFrOk W r.most := by
      intro i him
      obtain ⟨cs', hc, ht'⟩ := hi i (by omega)
      obtain ⟨_, hcl, hat⟩ := World.cells?_some hc
      match cs', hcl with
      | [c0, c1, c2, c3, c4], _ =>
        obtain ⟨y0, y1, n', _, _, h0, h1⟩ := Go.ChangeShapes.trod_struct2 Tryz.underlying43 ht'
        have h0' : DataW.trod enc Tryz.prog W 0 (fun _ => true) true n' 25 [c0] = some y0 := by
          have h := h0
          simpa [Value.cells, cellsS] using h
        have h1' : DataW.trod enc Tryz.prog W 0 (fun _ => true) true n' 39 [c1, c2, c3, c4] = some y1 := by
          have h := h1
          simpa [Value.cells, cellsS, cellsF] using h
        obtain ⟨xa, xc, xs, rfl, hfit, _, hls⟩ := open_list h0'
        obtain ⟨M, rfl, rfl, rfl, rfl, hM⟩ := open_four h1'
        have a0' := hat 0 (by decide)
        have a1' := hat 1 (by decide)
        have a2' := hat 2 (by decide)
        have a3' := hat 3 (by decide)
        have a4' := hat 4 (by decide)
        rw [Go.Deep.add_add] at a0' a1' a2' a3' a4'
        simp at a0' a1' a2' a3' a4'
        exact ⟨⟨xa, xc, xs, M⟩, a0', hfit, hls, a1', a2', a3', a4', hM⟩
    obtain ⟨rs, h1, h2⟩ := exists_list len0 key
    refine ⟨some a, cap0, rs, by rw [h1], fun h0 => ?_, .inr ⟨_, _, (Prod.mk.inj hxx).1, by simp [h1]⟩⟩
    have hx0 := (h2 0 h0).1
    have hx : a = ⟨a.block, a.off, none⟩ := spot_none (by simpa [Addr.add] using hx0)
    refine ⟨a.block, a.off, by rw [← hx], fun i hi' => ?_⟩
    obtain ⟨g0, g1, g2, g3, g4, g5, g6, g7⟩ := h2 i hi'
    rw [hx, add_plain] at g0 g3 g4 g5 g6
    exact ⟨g0, g1, g2, by rw [Nat.add_assoc]; exact g3, by rw [Nat.add_assoc, Nat.add_assoc]; exact g4, by rw [Nat.add_assoc, Nat.add_assoc]; exact g5, by rw [Nat.add_assoc, Nat.add_assoc]; exact g6, g7⟩
set_option maxRecDepth 100000 in
/-- Fractions that came in. -/
theorem open_fracs {H : Type} {enc : TypeId × Value → H} {W : World} {b0 : Nat} {r : Reach} {v : Value} {d : DataW H} {p : List MemPlace} (hv : Value.okWide Tryz.prog W r b0 25 v) (h : DataW.Trod enc Tryz.prog W 0 (fun _ => true) true 25 v d p) :
    ∃ (a : Option Addr) (cap : Nat) (xs : List RFr), v = .slice a xs.length cap ∧ Fit a xs.length cap ∧ ListAt W a xs := by
  obtain ⟨a0, len0, cap0, rfl⟩ := okWide_slice Tryz.underlying25 hv
  obtain ⟨fuel, hf⟩ := h
  obtain ⟨a, c, xs, e, h1, _, h2⟩ := open_list (v := .slice a0 len0 cap0) (by simpa [Value.cells] using hf)
  exact ⟨a, c, xs, e, h1, h2⟩
set_option maxRecDepth 100000 in
theorem open_word {H : Type} {enc : TypeId × Value → H} {W : World} {b0 : Nat} {r : Reach} {v : Value} {d : DataW H} {p : List MemPlace} (hv : Value.okWide Tryz.prog W r b0 3 v) (h : DataW.Trod enc Tryz.prog W 0 (fun _ => true) true 3 v d p) : ∃ m : Int, v = .int .i64 m ∧ -9223372036854775808 ≤ m ∧ m ≤ 9223372036854775807 := by
  obtain ⟨k, rfl, _, _, hk⟩ := Go.ChangeShapes.open_int Tryz.underlying3 hv h
  have hmin : IntKind.i64.min = -9223372036854775808 := rfl
  have hmax : IntKind.i64.max = 9223372036854775807 := rfl
  simp [Lit.wf, hmin, hmax] at hk
  exact ⟨_, rfl, hk.1, hk.2⟩
end Go.Proofs.YtphjffbldhhdiaaGreatDoor
