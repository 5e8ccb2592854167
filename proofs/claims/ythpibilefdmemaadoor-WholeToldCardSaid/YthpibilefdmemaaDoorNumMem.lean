/- Digits in memory; an integer by its value. -/
import Derived.Test.YthpibilefdmemaaDoorBlk
import Derived.Test.YthpibilefdmemaaDoorDig
import Derived.WalkSpells
import Derived.WalkLawsBesides
namespace Go.Proofs.YthpibilefdmemaaDoor
open Go.RowKit

/-- The base of the program's digits. -/
def BB : Nat := 1000000000
theorem BB_eq : BB = 1000000000 := rfl

/-- Digits of kind k lie at the slice's address. -/
def Dg (k : IntKind) (w : World) (a : Option Addr) (ds : List Nat) : Prop :=
  0 < ds.length → ∃ b off, a = some ⟨b, off, none⟩ ∧ ∀ i (h : i < ds.length), w.cell? ⟨b, off + i, none⟩ = some (.int k (ds[i] : Int))

theorem Dg.nil {k : IntKind} (w : World) (a : Option Addr) : Dg k w a [] := fun h => by simp at h
theorem Dg.below {k : IntKind} {w w' : World} {B : Nat} {a : Option Addr} {ds : List Nat} (h : Dg k w a ds) (hb : Below B w w') (hB : w.heap.size ≤ B) : Dg k w' a ds := by
  intro hn
  obtain ⟨b, off, e, hc⟩ := h hn
  have hlt : b < B := by
    have := World.block_lt_of_cell? w _ (hc 0 hn)
    simp at this
    omega
  exact ⟨b, off, e, fun i hi => (hb.cell (by simpa using hlt)).trans (hc i hi)⟩
theorem Dg.drewN {k : IntKind} {w : World} {a : Option Addr} {ds : List Nat} (h : Dg k w a ds) (n : Nat) : Dg k (w.drewN n) a ds := h
theorem Dg.take {k : IntKind} {w : World} {a : Option Addr} {ds : List Nat} (h : Dg k w a ds) (n : Nat) : Dg k w a (ds.take n) := by
  intro hn
  obtain ⟨b, off, e, hc⟩ := h (by simp at hn; omega)
  exact ⟨b, off, e, fun i hi => by simpa using hc i (by simp at hi; omega)⟩
theorem Dg.at {k : IntKind} {w : World} {a : Option Addr} {ds : List Nat} (h : Dg k w a ds) {i : Nat} (hi : i < ds.length) : ∃ b off, a = some ⟨b, off, none⟩ ∧ w.cell? ⟨b, off + i, none⟩ = some (.int k (ds[i] : Int)) ∧ b < w.heap.size := by
  obtain ⟨b, off, e, hc⟩ := h (by omega)
  have := World.block_lt_of_cell? w _ (hc i hi)
  exact ⟨b, off, e, hc i hi, by simpa using this⟩

/-- The cells of digits. -/
def dcells (k : IntKind) (ds : List Nat) : List Value := ds.map fun (d : Nat) => Value.int k (d : Int)
theorem dcells_len (k : IntKind) (ds : List Nat) : (dcells k ds).length = ds.length := by simp [dcells]
theorem dcells_app (k : IntKind) (a b : List Nat) : dcells k (a ++ b) = dcells k a ++ dcells k b := by simp [dcells]
theorem dcells_one (k : IntKind) (ds : List Nat) : ∀ u ∈ dcells k ds, u.oneCell' = true := by
  intro u hu
  simp [dcells] at hu
  obtain ⟨x, _, rfl⟩ := hu
  rfl

/-- A slice has room for its elements; a nil one has none. -/
def Fit (a : Option Addr) (n cap : Nat) : Prop := n ≤ cap ∧ (a = none → cap = 0)

/-- An integer, by its value. -/
def IntV (w : World) (v : Value) (z : Int) : Prop :=
  ∃ a cap, v = .agg #[.bool (decide (z < 0)), .slice a (dg BB z.natAbs).length cap] ∧ Fit a (dg BB z.natAbs).length cap ∧ Dg .u32 w a (dg BB z.natAbs)
/-- How many digits an integer has. -/
def len (z : Int) : Nat := (dg BB z.natAbs).length

theorem IntV.below {w w' : World} {B : Nat} {v : Value} {z : Int} (h : IntV w v z) (hb : Below B w w') (hB : w.heap.size ≤ B) : IntV w' v z := by
  obtain ⟨a, cap, e, hc, hd⟩ := h
  exact ⟨a, cap, e, hc, hd.below hb hB⟩
theorem IntV.drewN {w : World} {v : Value} {z : Int} (h : IntV w v z) (n : Nat) : IntV (w.drewN n) v z := h
theorem IntV.zero (w : World) : IntV w (.agg #[.bool false, .slice none 0 0]) 0 := ⟨none, 0, rfl, ⟨Nat.zero_le _, fun _ => rfl⟩, Dg.nil _ _⟩

theorem below_drewN {B : Nat} {w w' : World} (h : Below B w w') (n : Nat) : Below B w (w'.drewN n) := ⟨h.os, h.tape, h.output, h.size, h.block⟩
theorem below_of_grown {w w' : World} {base : Nat} {row : Option Nat} (h : w.grownBy w' row) (hr : ∀ g, row = some g → base ≤ g) (hb : base ≤ w.heap.size) : Below base w w' :=
  ⟨h.os, h.tape, h.output, h.size, fun i hi => h.block i (Nat.lt_of_lt_of_le hi hb) (fun e => by have := hr i e.symm; omega)⟩
theorem Blk.c2 {w : World} {g : Nat} {t : TypeId} {a b : Value} (h : Blk w g t #[a, b]) : w.cell? ⟨g, 0, none⟩ = some a ∧ w.cell? ⟨g, 1, none⟩ = some b ∧ ∀ i, w.frozen? ⟨g, i, none⟩ = false :=
  ⟨h.cell 0, h.cell 1, h.frozen⟩

/-- What a function leaves that computes an integer. -/
def IntPost (w : World) (z : Int) (e : Ending) (w' : World) : Prop := ∃ r, e = .returned r ∧ IntV w' r z ∧ Below w.heap.size w w'

theorem BB2 : 2 ≤ BB := by decide
theorem dgB_lt (n : Nat) {i : Nat} (h : i < (dg BB n).length) : (dg BB n)[i] < BB := (dg_canon BB2 n).1.at h

/-- May an integer be? -/
def rightB (neg : Bool) (ds : List Nat) : Bool := if ds.isEmpty then !neg else ds.all (fun d => decide (d < BB)) && !(ds.getLastD 1 == 0)
theorem rightB_dg (z : Int) : rightB (decide (z < 0)) (dg BB z.natAbs) = true := by
  unfold rightB
  split
  · rename_i h
    have h0 : z.natAbs = 0 := (dg_eq_nil BB2).1 (by simpa using h)
    simp; omega
  · have hc := dg_canon BB2 z.natAbs
    rw [Bool.and_eq_true]
    refine ⟨List.all_eq_true.2 fun x hx => decide_eq_true (hc.1 x hx), ?_⟩
    rename_i hne
    rcases snoc_cases (dg BB z.natAbs) with h | ⟨r, d, h⟩
    · rw [h] at hne; simp at hne
    · rw [h] at hc ⊢
      have := hc.2
      simp at this ⊢
      exact this
theorem rightB_canon {neg : Bool} {ds : List Nat} (h : rightB neg ds = true) : Canon BB ds ∧ (ds = [] → neg = false) := by
  unfold rightB at h
  split at h
  · rename_i h0
    obtain rfl : ds = [] := by simpa using h0
    exact ⟨Canon.nil _, fun _ => by simpa using h⟩
  · rename_i h0
    rw [Bool.and_eq_true] at h
    refine ⟨⟨fun x hx => of_decide_eq_true (List.all_eq_true.1 h.1 x hx), ?_⟩, fun e => by rw [e] at h0; simp at h0⟩
    rcases snoc_cases ds with rfl | ⟨r, d, rfl⟩
    · simp
    · have := h.2
      simp at this ⊢
      exact this
/-- The integer of a sign and digits. -/
def signZ (neg : Bool) (n : Nat) : Int := if neg then -(n : Int) else (n : Int)
theorem rightB_val {neg : Bool} {ds : List Nat} (h : rightB neg ds = true) : ∃ z : Int, neg = decide (z < 0) ∧ ds = dg BB z.natAbs := by
  obtain ⟨hc, h0⟩ := rightB_canon h
  refine ⟨signZ neg (val BB ds), ?_, ?_⟩
  · cases neg with
    | false => simp [signZ]
    | true =>
      have hne : ds ≠ [] := fun e => by have := h0 e; cases this
      have := hc.pos (by decide) hne
      simp [signZ]; omega
  · have e : (signZ neg (val BB ds)).natAbs = val BB ds := by cases neg <;> simp [signZ]
    rw [e]
    exact hc.eq_dg BB2

set_option maxRecDepth 100000 in
theorem run_upto (w : World) (t n : Nat) (ht : Tryd.prog.underlying t = some (.slice (Tryd.prog.elem t))) (hs : (sizeOf (Tryd.prog.elem t)).run Tryd.prog w = .ok n w) (a : Option Addr) (len cap h : Nat) (y : Int) (hy : y = (h : Int)) (h2 : h ≤ cap) :
    (Instr.slice t (.slice a len cap) none (some (.int .i64 y)) none).run Tryd.prog w = .ok (.slice a h cap) w := by
  subst hy
  rw [run_slice_h (P := Tryd.prog) w t a len cap ht .i64 (h : Int) (by omega) (by omega), hs]
  simp only [Result.andThen, sliced]
  congr 1
  split
  · simp
  · cases a <;> simp [Addr.add]
theorem size_u32 (w : World) : (sizeOf 81).run Tryd.prog w = .ok 1 w := by kernel_rfl
theorem elem32 : Tryd.prog.elem 22 = 81 := by kernel_rfl
theorem run_upto32 (w : World) (a : Option Addr) (len cap h : Nat) (y : Int) (hy : y = (h : Int)) (h2 : h ≤ cap) :
    (Instr.slice 22 (.slice a len cap) none (some (.int .i64 y)) none).run Tryd.prog w = .ok (.slice a h cap) w :=
  run_upto w 22 1 (by rw [elem32]; exact Tryd.underlying22) (by rw [elem32]; exact size_u32 w) a len cap h y hy h2

theorem drew2 {w : World} {n m : Nat} : ∃ k, (w.drewN n).drewN m = w.drewN k := ⟨_, World.drewN_drewN _ _ _⟩
theorem drew3 {w : World} {n m l : Nat} : ∃ k, ((w.drewN n).drewN m).drewN l = w.drewN k := ⟨n + (m + l), by rw [World.drewN_drewN, World.drewN_drewN]⟩

/-- An integer whose digits a slice can hold. -/
def Sm (z : Int) : Prop := len z ≤ 1099511627776

/-- How two numbers stand. -/
def ordZ (m n : Int) : Int := if m < n then -1 else if n < m then 1 else 0
end Go.Proofs.YthpibilefdmemaaDoor
