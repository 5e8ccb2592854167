/- Words for memory: a text, a reader over it; what a reader's method may write. -/
import Derived.Test.YtajlibegalbbmaaDoorLeaf
import Derived.Deep.QuietTactic
import Derived.BigQuiet
import Derived.Deep.Draws
import Derived.Deep.OwnRows
import Derived.Deep.LoopGhost
namespace Go.Proofs.YtajlibegalbbmaaDoor
open Go.RowKit

theorem quiet_left {P : Program} {f : FuncId} {args : Array Value} {w : World} {n : Nat} {v : Value}
    (h : Calls P f args (w.drewN n) fun e w' => e = .returned v ∧ w.drewN n = w') : Calls P f args (w.drewN n) fun e w'' => e = .returned v ∧ ∃ m, w'' = w.drewN m :=
  h.mono fun _ _ ⟨he, hm⟩ => ⟨he, n, hm.symm⟩

theorem hide {p : Prop} (h : p) : Hid p := h

theorem only_refl (a : World) (row : Option Nat) : a.grownBy a row := ⟨rfl, rfl, rfl, Nat.le_refl _, fun _ _ _ => rfl⟩
theorem only_trans {a b c : World} {g : Nat} (h : a.grownBy b (some g)) (k : b.grownBy c (some g)) : a.grownBy c (some g) :=
  ⟨k.os.trans h.os, k.tape.trans h.tape, k.output.trans h.output, Nat.le_trans h.size k.size, fun i hi hne => (k.block i (Nat.lt_of_lt_of_le hi h.size) hne).trans (h.block i hi hne)⟩
theorem only_drewN {a w : World} {row : Option Nat} (h : a.grownBy w row) (n : Nat) : a.grownBy (w.drewN n) row := ⟨h.os, h.tape, h.output, h.size, h.block⟩
theorem only_drew {a w : World} {row : Option Nat} (h : a.grownBy w row) : a.grownBy w.drew row := ⟨h.os, h.tape, h.output, h.size, h.block⟩
theorem only_alloc {a w : World} {row : Option Nat} (h : a.grownBy w row) (o : Obj) : a.grownBy (w.alloc o) row :=
  ⟨h.os, h.tape, h.output, Nat.le_trans h.size (by simp), fun i hi hne => (Below.heap_alloc w o i (Nat.lt_of_lt_of_le hi h.size)).trans (h.block i hi hne)⟩
theorem only_setCell {a w : World} {g : Nat} (h : a.grownBy w (some g)) {p : Addr} (hp : p.block = g ∨ a.heap.size ≤ p.block) (u : Value) : a.grownBy (w.setCell p u) (some g) :=
  ⟨h.os, h.tape, h.output, by simpa [World.setCell] using h.size, fun i hi hne => (Below.heap_setCell w p u i (by
    rintro rfl
    rcases hp with hp | hp
    · exact hne (by rw [hp])
    · omega)).trans (h.block i hi hne)⟩
theorem only_of_below {a w : World} (h : Below a.heap.size a w) (row : Option Nat) : a.grownBy w row := ⟨h.os, h.tape, h.output, h.size, fun i hi _ => h.block i hi⟩

/-- Block g is known whole. -/
def Blk (w : World) (g : Nat) (t : TypeId) (cs : Array Value) : Prop := w.heap[g]? = some (.cells cs t (0, 0))
section
variable {w w' : World} {g : Nat} {t : TypeId} {cs : Array Value}
theorem Blk.lt (h : Blk w g t cs) : g < w.heap.size := by
  rcases Nat.lt_or_ge g w.heap.size with hlt | hge
  · exact hlt
  · unfold Blk at h; rw [Array.getElem?_eq_none hge] at h; cases h
theorem Blk.cell (h : Blk w g t cs) (i : Nat) : w.cell? ⟨g, i, none⟩ = cs[i]? := cell_of_row w g i cs t (0, 0) h
theorem Blk.frozen (h : Blk w g t cs) (i : Nat) : w.frozen? ⟨g, i, none⟩ = false := by
  unfold Blk at h
  simp [World.frozen?, h]
theorem Blk.new (w : World) (t : TypeId) (cs : Array Value) : Blk (w.alloc (.cells cs t)) w.heap.size t cs := heap_alloc_new w _
theorem Blk.drewN (h : Blk w g t cs) (n : Nat) : Blk (w.drewN n) g t cs := h
theorem Blk.drew (h : Blk w g t cs) : Blk w.drew g t cs := h
theorem Blk.alloc (h : Blk w g t cs) (o : Obj) : Blk (w.alloc o) g t cs := (Below.heap_alloc w o g h.lt).trans h
theorem Blk.set_ (h : Blk w g t cs) (i : Nat) (u : Value) : Blk (w.setCell ⟨g, i, none⟩ u) g t (cs.setIfInBounds i u) := by
  unfold Blk at h ⊢
  simp [World.setCell, Array.getElem?_modify, h]
theorem Blk.far (h : Blk w g t cs) {p : Addr} (hp : g ≠ p.block) (u : Value) : Blk (w.setCell p u) g t cs := (Below.heap_setCell w p u g hp).trans h
theorem Blk.below {B : Nat} (h : Blk w g t cs) (hb : Below B w w') (hg : g < B) : Blk w' g t cs := (hb.block g hg).trans h
theorem Blk.grown {row : Option Nat} (h : Blk w g t cs) (hb : w.grownBy w' row) (hg : some g ≠ row) : Blk w' g t cs := (hb.block g h.lt hg).trans h
theorem Blk.ne_ {g' : Nat} {t' : TypeId} {cs' : Array Value} (h : Blk w g t cs) (h' : Blk w g' t' cs') (hne : t ≠ t') : g ≠ g' := by
  rintro rfl
  unfold Blk at h h'
  rw [h] at h'
  injection h' with h'
  injection h' with _ ht
  exact hne ht
theorem Blk.c3 {a b c : Value} (h : Blk w g t #[a, b, c]) : w.cell? ⟨g, 0, none⟩ = some a ∧ w.cell? ⟨g, 1, none⟩ = some b ∧ w.cell? ⟨g, 2, none⟩ = some c ∧ ∀ i, w.frozen? ⟨g, i, none⟩ = false :=
  ⟨h.cell 0, h.cell 1, h.cell 2, h.frozen⟩
end

/-- The bytes bs lie at the slice's address, below block B. -/
def Txt (w : World) (B : Nat) (ta : Option Addr) (bs : List UInt8) : Prop :=
  0 < bs.length → ∃ b off, ta = some ⟨b, off, none⟩ ∧ b < B ∧ ∀ i (h : i < bs.length), w.cell? ⟨b, off + i, none⟩ = some (.int .u8 (bs[i].toNat : Int))

theorem Txt.keep {w w' : World} {B : Nat} {ta : Option Addr} {bs : List UInt8} (h : Txt w B ta bs) (hk : ∀ k, k < B → w'.heap[k]? = w.heap[k]?) : Txt w' B ta bs := by
  intro hn
  obtain ⟨b, off, e, hb, hc⟩ := h hn
  exact ⟨b, off, e, hb, fun i hi => (World.cell?_of_block (w := w) (hk b hb)).trans (hc i hi)⟩

/-- A reader lies in block R: its text and its place. -/
structure Rd (w : World) (R : Nat) (ta : Option Addr) (cap : Nat) (bs : List UInt8) (p : Nat) : Prop where
  blk : w.heap[R]? = some (.cells #[.slice ta bs.length cap, .int .i64 (p : Int)] 58 (0, 0))
  txt : Txt w R ta bs
  le : p ≤ bs.length
  fit : bs.length ≤ cap
  top : bs.length ≤ 140737488351232

section
variable {w w' : World} {R : Nat} {ta : Option Addr} {cap : Nat} {bs : List UInt8} {p : Nat}

theorem Rd.lt (h : Rd w R ta cap bs p) : R < w.heap.size := by
  rcases Nat.lt_or_ge R w.heap.size with hlt | hge
  · exact hlt
  · have := h.blk; rw [Array.getElem?_eq_none hge] at this; cases this
theorem Rd.cell0 (h : Rd w R ta cap bs p) : w.cell? ⟨R, 0, none⟩ = some (.slice ta bs.length cap) := by simp [World.cell?, h.blk]
theorem Rd.cell1 (h : Rd w R ta cap bs p) : w.cell? ⟨R, 1, none⟩ = some (.int .i64 (p : Int)) := by simp [World.cell?, h.blk]
theorem Rd.free (h : Rd w R ta cap bs p) (i : Nat) : w.frozen? ⟨R, i, none⟩ = false := by simp [World.frozen?, h.blk]
theorem Rd.keep (h : Rd w R ta cap bs p) (hk : ∀ k, k ≤ R → w'.heap[k]? = w.heap[k]?) : Rd w' R ta cap bs p :=
  ⟨(hk R (Nat.le_refl _)).trans h.blk, h.txt.keep fun k hlt => hk k (by omega), h.le, h.fit, h.top⟩
theorem Rd.drewN (h : Rd w R ta cap bs p) (n : Nat) : Rd (w.drewN n) R ta cap bs p := ⟨h.blk, h.txt, h.le, h.fit, h.top⟩
theorem Rd.drew (h : Rd w R ta cap bs p) : Rd w.drew R ta cap bs p := ⟨h.blk, h.txt, h.le, h.fit, h.top⟩
theorem Rd.alloc (h : Rd w R ta cap bs p) (o : Obj) : Rd (w.alloc o) R ta cap bs p := h.keep fun k hk => Below.heap_alloc w o k (by have := h.lt; omega)
theorem Rd.far (h : Rd w R ta cap bs p) {a : Addr} (ha : R < a.block) (u : Value) : Rd (w.setCell a u) R ta cap bs p := h.keep fun k hk => Below.heap_setCell w a u k (by omega)
theorem Rd.move (h : Rd w R ta cap bs p) {p' : Nat} {z : Int} (hz : z = (p' : Int)) (hp : p' ≤ bs.length) : Rd (w.setCell ⟨R, 1, none⟩ (.int .i64 z)) R ta cap bs p' := by
  subst hz
  refine ⟨?_, h.txt.keep fun k hk => Below.heap_setCell w _ _ k (by simp; omega), hp, h.fit, h.top⟩
  have := h.blk
  simp [World.setCell, Array.getElem?_modify, this]
theorem Rd.byte (h : Rd w R ta cap bs p) {j : Nat} (hj : j < bs.length) : ∃ b off, ta = some ⟨b, off, none⟩ ∧ b < R ∧ w.cell? ⟨b, off + j, none⟩ = some (.int .u8 (bs[j].toNat : Int)) := by
  obtain ⟨b, off, e, hb, hc⟩ := h.txt (by omega)
  exact ⟨b, off, e, hb, hc j hj⟩
theorem Rd.grown (h : Rd w R ta cap bs p) {g : Nat} (hg : w.grownBy w' (some g)) (hne : R < g) : Rd w' R ta cap bs p :=
  h.keep fun k hk => hg.block k (by have := h.lt; omega) (by simp; omega)
end

/-- The address of what is cut off from l on. -/
def cutA (a : Option Addr) (cap l : Nat) : Option Addr := if cap = l then a else a.map (·.add l)

theorem size_byte (w : World) : (sizeOf 5).run Tryd.prog w = .ok 1 w := by kernel_rfl

theorem run_cut (w : World) (a : Option Addr) (len cap l h : Nat) (x y : Int) (hx : x = (l : Int)) (hy : y = (h : Int)) (h1 : l ≤ h) (h2 : h ≤ cap) :
    (Instr.slice 24 (.slice a len cap) (some (.int .i64 x)) (some (.int .i64 y)) none).run Tryd.prog w = .ok (.slice (cutA a cap l) (h - l) (cap - l)) w := by
  subst hx hy
  rw [run_slice_lh (P := Tryd.prog) w 24 a len cap Tryd.underlying24 .i64 .i64 (l : Int) (h : Int) (by omega) (by omega) (by omega)]
  rw [show Tryd.prog.elem 24 = 5 from by kernel_rfl, size_byte]
  simp [Result.andThen, sliced, cutA]

theorem txt_cut {w : World} {B : Nat} {ta : Option Addr} {bs : List UInt8} (h : Txt w B ta bs) {cap p q : Nat} (hpq : p ≤ q) (hq : q ≤ bs.length) (hc : bs.length ≤ cap) (c : Nat) :
    (convert 24 9 (.slice (cutA ta cap p) (q - p) c)).run Tryd.prog w = .ok (.string ⟨((bs.drop p).take (q - p)).toArray⟩) w := by
  rcases Nat.eq_or_lt_of_le hpq with rfl | hlt
  · rw [Nat.sub_self, run_convert_bytes_string w 24 9 5 _ 0 c Tryd.underlying24 Tryd.underlying5 Tryd.underlying9]
    cases h : cutA ta cap p with
    | none => simp [Conv.bytesToString]; rfl
    | some a => rw [run_bytesToString w a 0 c [] (by simp [loadCells, loadCellsFrom])]; simp; rfl
  · obtain ⟨b, off, rfl, _, hcell⟩ := h (by omega)
    have e : cutA (some ⟨b, off, none⟩) cap p = some ⟨b, off + p, none⟩ := by
      unfold cutA
      rw [if_neg (by omega)]
      unfold Addr.add
      by_cases hp : p = 0 <;> simp [hp]
    rw [e]
    have hl : ((bs.drop p).take (q - p)).length = q - p := by simp; omega
    have := run_convert_bytes_arg (P := Tryd.prog) w 24 5 Tryd.underlying24 Tryd.underlying5 b (off + p) (q - p) c (((bs.drop p).take (q - p)).map fun u => (u.toNat : Int)) (by simpa using hl) (fun i hi => by
      have := hcell (p + i) (by omega)
      rw [Nat.add_assoc, this]
      rw [List.getD_eq_getElem?_getD, List.getElem?_map, List.getElem?_take, if_pos hi, List.getElem?_drop, List.getElem?_eq_getElem (by omega)]
      rfl) 9 Tryd.underlying9
    rw [this]
    congr 2
    unfold strOfNums
    congr 2
    rw [List.map_map]
    conv => rhs; rw [← List.map_id ((bs.drop p).take (q - p))]
    apply List.map_congr_left
    intro u _
    simp

end Go.Proofs.YtajlibegalbbmaaDoor
