/- A slice of tokens that came in, opened. -/
import Derived.Test.YtajlibegalbbmaaDoorDoorLaw
import Derived.Test.YtajlibegalbbmaaDoorJoins
import Derived.Deep.Slices
import Derived.Deep.Fields
import Derived.Deep.Strs
import Derived.ChangeSame
namespace Go.Proofs.YtajlibegalbbmaaDoor
open Go.ChangeShapes Go.WideShapes Go.ChangeAt Go.RowKit

theorem choose_list {α : Type} (P : Nat → α → Prop) : ∀ n, (∀ i, i < n → ∃ x, P i x) → ∃ l : List α, l.length = n ∧ ∀ i (h : i < l.length), P i l[i]
  | 0, _ => ⟨[], rfl, fun i h => by simp at h⟩
  | n + 1, h => by
    obtain ⟨l, hl, hP⟩ := choose_list P n fun i hi => h i (by omega)
    obtain ⟨x, hx⟩ := h n (by omega)
    refine ⟨l ++ [x], by simp [hl], fun i hi => ?_⟩
    rcases Nat.lt_or_ge i l.length with h' | h'
    · rw [List.getElem_append_left h']; exact hP i h'
    · have : i = l.length := by simp at hi; omega
      subst this
      rw [List.getElem_append_right (Nat.le_refl _)]
      simpa [hl] using hx

theorem open_toks {H : Type} {enc : TypeId × Value → H} {W : World} {b0 : Nat} {r : Reach} {v : Value} {d : DataW H} {p : List MemPlace} (hv : Value.okWide Tryd.prog W r b0 28 v) (h : DataW.Trod enc Tryd.prog W 0 (fun _ => true) true 28 v d p) :
    ∃ (a0 : Option Addr) (cap0 : Nat) (ts : List Tok), v = .slice a0 ts.length cap0 ∧ TokIn W W.heap.size a0 ts ∧ ts.length ≤ cap0 ∧ cap0 ≤ maxLen ∧ (a0 = none → cap0 = 0) := by
  obtain ⟨a0, len0, cap0, rfl⟩ := okWide_slice Tryd.underlying28 hv
  obtain ⟨fuel, hf⟩ := h
  rcases Go.Deep.open_slice Tryd.underlying28 hf with ⟨hcs, _⟩ | ⟨a, len, cap, m, n, D, Pl, hcs, _, hl, hm, hmm, _, hi⟩
  · simp [Value.cells] at hcs
    obtain ⟨rfl, rfl, rfl⟩ := hcs
    exact ⟨none, 0, [], rfl, fun h => by simp at h, Nat.le_refl _, by unfold maxLen; omega, fun _ => rfl⟩
  · simp [Value.cells] at hcs
    obtain ⟨rfl, rfl, rfl⟩ := hcs
    have hC : Tryd.prog.cellsOf 23 = 3 := by kernel_rfl
    simp only [if_true] at hmm
    rw [hC] at hi
    have key : ∀ i, i < len0 → ∃ x : Tok, W.cell? (a.add (i * 3)) = some (.int .i64 x.1) ∧ W.cell? (a.add (i * 3 + 1)) = some (.string ⟨x.2.1.toArray⟩) ∧ W.cell? (a.add (i * 3 + 2)) = some (.int .i64 x.2.2) := by
      intro i him
      obtain ⟨cs', hc, ht'⟩ := hi i (by omega)
      obtain ⟨_, hcl, hat⟩ := World.cells?_some hc
      obtain ⟨y0, y1, y2, n', _, hlen, h0, h1, h2⟩ := Go.Deep.trod_struct3 Tryd.underlying23 ht'
      match cs', hcl with
      | [c0, c1, c2], _ =>
        obtain ⟨k, e0, _, _⟩ := DataW.trod_int Tryd.underlying3 h0
        obtain ⟨s, e1, _, _⟩ := DataW.trod_string Tryd.underlying9 h1
        obtain ⟨z, e2, _, _⟩ := DataW.trod_int Tryd.underlying3 h2
        have k3 : Tryd.prog.cellsOf 3 = 1 := by kernel_rfl
        have k9 : Tryd.prog.cellsOf 9 = 1 := by kernel_rfl
        simp [k3, k9] at e0 e1 e2
        have a0' := hat 0 (by decide)
        have a1' := hat 1 (by decide)
        have a2' := hat 2 (by decide)
        rw [Go.Deep.add_add] at a0' a1' a2'
        simp at a0' a1' a2'
        exact ⟨(k, s.data.toList, z), by rw [a0', e0], by rw [a1', e1], by rw [a2', e2]⟩
    obtain ⟨ts, hts, hP⟩ := choose_list _ len0 key
    refine ⟨some a, cap0, ts, by rw [hts], ?_, by omega, hm, fun h => by cases h⟩
    intro hn
    have h0 := (hP 0 hn).1
    have hx : a = ⟨a.block, a.off, none⟩ := spot_none (by simpa [Addr.add] using h0)
    have hlt := World.block_lt_of_cell? W _ h0
    rw [hx] at hP hlt ⊢
    refine ⟨a.block, a.off, rfl, by simpa [Addr.add] using hlt, fun i hi' => ?_⟩
    have := hP i hi'
    rw [add_plain, add_plain, add_plain] at this
    simpa [Nat.add_assoc] using this
end Go.Proofs.YtajlibegalbbmaaDoor
