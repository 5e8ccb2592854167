/- Rows of fractions that are made. -/
import Derived.Test.YtphjffbldhhdiaaGreatDoorSxOwn
namespace Go.Proofs.YtphjffbldhhdiaaGreatDoor
open Go.RowKit

def zeroF : Value := .agg #[.bool false, .slice none 0 0, .bool false, .slice none 0 0]
theorem infoF : (Tryz.prog.info? 39).map (fun i => (i.zero, i.size, i.bytes)) = some (some zeroF, 4, 64) := by kernel_rfl
theorem own_rowN {w : World} {base : Nat} {e : TypeId} {g n k : Nat} {xs : List Value} (h : w.ownsRow base e k (.slice (some ⟨g, 0, none⟩) n n) n xs) : Blk w g e xs.toArray := by
  rcases h.2 with ⟨hv, _⟩ | ⟨g', c, cur, hv, _, hg, hle, _, hsz, htk⟩
  · cases hv
  · injection hv with h1 _ h2
    injection h1 with h1
    injection h1 with h1
    subst h1 h2
    unfold Blk
    rw [hg]
    have : cur = xs.toArray := by
      rw [← htk, List.take_of_length_le (by simp; omega)]
    rw [this]
theorem made_at {n i d : Nat} (hi : i < n) (hd : d < 4) : (madeCells zeroF.cells (n * 4))[i * 4 + d]? = zeroF.cells[d]? := by
  have h1 : i * 4 + d < n * 4 := by omega
  have h2 : (i * 4 + d) % 4 = d := by omega
  unfold madeCells
  match d, hd with
  | 0, _ =>
    have h3 : i * 4 < n * 4 := by omega
    rw [Nat.add_zero, Array.getElem?_map, Array.getElem?_range, if_pos h3]
    simp [zeroF, Value.cells]
  | 1, _ => simp [zeroF, Value.cells, h1, h2]
  | 2, _ => simp [zeroF, Value.cells, h1, h2]
  | 3, _ => simp [zeroF, Value.cells, h1, h2]
theorem FAt.made {w : World} {g n i : Nat} (h : Blk w g 39 (madeCells zeroF.cells (n * 4))) (hi : i < n) : FAt w g (i * 4) 0 :=
  ⟨false, none, 0, 0, false, none, 0, 0, (h.cell _).trans (made_at (d := 0) hi (by decide)), (h.cell _).trans (made_at (d := 1) hi (by decide)), (h.cell _).trans (made_at (d := 2) hi (by decide)), (h.cell _).trans (made_at (d := 3) hi (by decide)), FracV.zero w⟩
theorem wpList_make_frac {w : World} {ops : Array Oper} {rest : List Oper} {o : Oper} {a : Act} {Q : Exit → Act → World → Prop} (hgd : o.guard = none) (l c : Operand) (ho : o.op = Op.makeSlice 25 l c)
    (L C : Int) (n : Nat) (hl : a.eval l = .int .i64 L) (hc : a.eval c = .int .i64 C) (hL : L = (n : Int)) (hC : C = (n : Int)) (hn : n ≤ 1000000)
    (hK : ∀ w', (∀ i, i < n → FAt w' w.heap.size (i * 4) 0) → (∀ i, w'.frozen? ⟨w.heap.size, i, none⟩ = false) → Below w.heap.size w w' → wpList Tryz.prog ops Q rest (a.put o.dst (.slice (some ⟨w.heap.size, 0, none⟩) n n)) w') : wpList Tryz.prog ops Q (o :: rest) a w := by
  obtain ⟨i0, hi0, hz0, hz1, hz2⟩ := info_parts infoF
  refine wpList_make_full w hgd l c 25 ho w.heap.size 39 i0 zeroF 4 Tryz.underlying25 hi0 hz0 hz1 .i64 .i64 L C n hl hc hL hC (by rw [hz2]; omega) (by unfold maxLen; omega) (Nat.le_refl _) (fun w' h1 h2 => ?_)
  have h3 := own_rowN h1
  rw [Array.toArray_toList] at h3
  exact hK w' (fun i hi => FAt.made h3 hi) h3.frozen (below_of_grown h2 (fun g h => by cases h) (Nat.le_refl _))
end Go.Proofs.YtphjffbldhhdiaaGreatDoor
