/- A row of digits of the call's own, known whole: made, read, written. -/
import Derived.Test.YthpibilefdmemaaDoorOwn
namespace Go.Proofs.YthpibilefdmemaaDoor
open Go.RowKit

/-- Block g is these digits. -/
def DRow (k : IntKind) (t : TypeId) (w : World) (g : Nat) (ds : List Nat) : Prop := Blk w g t (dcells k ds).toArray
section
variable {k : IntKind} {t : TypeId} {w w' : World} {g : Nat} {ds : List Nat}
theorem DRow.lt (h : DRow k t w g ds) : g < w.heap.size := Blk.lt h
theorem DRow.cell (h : DRow k t w g ds) {i : Nat} (hi : i < ds.length) : w.cell? ⟨g, i, none⟩ = some (.int k (ds[i] : Int)) := by
  rw [Blk.cell h i]; simp [dcells, List.getElem?_eq_getElem hi]
theorem DRow.frozen (h : DRow k t w g ds) (i : Nat) : w.frozen? ⟨g, i, none⟩ = false := Blk.frozen h i
theorem DRow.set (h : DRow k t w g ds) (i d : Nat) : DRow k t (w.setCell ⟨g, i, none⟩ (.int k (d : Int))) g (ds.set i d) := by
  have := Blk.set_ h i (.int k (d : Int))
  unfold DRow
  have e : (dcells k (ds.set i d)).toArray = (dcells k ds).toArray.setIfInBounds i (.int k (d : Int)) := by
    simp [dcells, List.map_set]
  rw [e]
  exact this
theorem DRow.below (h : DRow k t w g ds) {B : Nat} (hb : Below B w w') (hg : g < B) : DRow k t w' g ds := Blk.below h hb hg
theorem DRow.far (h : DRow k t w g ds) {p : Addr} (hp : g ≠ p.block) (u : Value) : DRow k t (w.setCell p u) g ds := Blk.far h hp u
theorem DRow.alloc (h : DRow k t w g ds) (o : Obj) : DRow k t (w.alloc o) g ds := Blk.alloc h o
theorem DRow.dg (h : DRow k t w g ds) : Dg k w (some ⟨g, 0, none⟩) ds := fun _ => ⟨g, 0, rfl, fun i hi => by rw [Nat.zero_add]; exact h.cell hi⟩
end

theorem val_set {b : Nat} : ∀ (ds : List Nat) (i d : Nat) (hi : i < ds.length), val b (ds.set i d) + b ^ i * ds[i] = val b ds + b ^ i * d
  | x :: r, 0, d, _ => by simp [val]; omega
  | x :: r, i + 1, d, h => by
    have ih := val_set (b := b) r i d (by simpa using h)
    simp only [List.set_cons_succ, val, List.getElem_cons_succ, Nat.pow_succ]
    rw [Nat.mul_comm (b ^ i) b, Nat.mul_assoc, Nat.mul_assoc]
    have : b * (val b (r.set i d) + b ^ i * r[i]'(by simpa using h)) = b * (val b r + b ^ i * d) := by rw [ih]
    rw [Nat.mul_add, Nat.mul_add] at this
    omega
theorem Digs.set {b : Nat} {ds : List Nat} (h : Digs b ds) {i d : Nat} (hd : d < b) : Digs b (ds.set i d) := by
  intro x hx
  rcases List.mem_or_eq_of_mem_set hx with hx | rfl
  · exact h x hx
  · exact hd

theorem own_row {w : World} {base : Nat} {e : TypeId} {g n : Nat} {xs : List Value} (h : w.ownsRow base e 1 (.slice (some ⟨g, 0, none⟩) n n) n xs) : Blk w g e xs.toArray := by
  rcases h.2 with ⟨hv, _⟩ | ⟨g', c, cur, hv, _, hg, hle, _, hsz, htk⟩
  · cases hv
  · injection hv with h1 _ h2
    injection h1 with h1
    injection h1 with h1
    subst h1 h2
    unfold Blk
    rw [hg]
    have : cur = xs.toArray := by
      rw [Nat.mul_one] at htk hsz
      rw [← htk, List.take_of_length_le (by simp; omega)]
    rw [this]

theorem made_zero (k : IntKind) (n : Nat) : (madeCells (Value.int k 0).cells (n * 1)).toList = dcells k (List.replicate n 0) := by
  rw [Nat.mul_one]
  unfold madeCells dcells
  simp only [Value.cells, Array.toList_map, Array.toList_range, List.map_replicate]
  apply List.ext_getElem
  · simp
  · intro i h1 h2
    simp [Nat.mod_one]

theorem wpList_make_zero {w : World} {ops : Array Oper} {rest : List Oper} {o : Oper} {a : Act} {Q : Exit → Act → World → Prop} (hgd : o.guard = none) (l c : Operand) (ho : o.op = Op.makeSlice 22 l c)
    (L C : Int) (n : Nat) (hl : a.eval l = .int .i64 L) (hc : a.eval c = .int .i64 C) (hL : L = (n : Int)) (hC : C = (n : Int)) (hn : n ≤ 4398046511104)
    (hK : ∀ w', DRow .u32 81 w' w.heap.size (List.replicate n 0) → Below w.heap.size w w' → wpList Tryd.prog ops Q rest (a.put o.dst (.slice (some ⟨w.heap.size, 0, none⟩) n n)) w') : wpList Tryd.prog ops Q (o :: rest) a w := by
  obtain ⟨i0, hi0, hz0, hz1, hz2⟩ := info_parts info32
  refine wpList_make_full w hgd l c 22 ho w.heap.size 81 i0 (.int .u32 0) 1 Tryd.underlying22 hi0 hz0 hz1 .i64 .i64 L C n hl hc hL hC (by rw [hz2]; omega) (by unfold maxLen; omega) (Nat.le_refl _) (fun w' h1 h2 => hK w' ?_ (below_of_grown h2 (fun g h => by cases h) (Nat.le_refl _)))
  rw [made_zero] at h1
  exact own_row h1
end Go.Proofs.YthpibilefdmemaaDoor
