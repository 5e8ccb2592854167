/- Two integers in boxes of the call's own, beside the result's: what the regions keep. -/
import Derived.Test.YthpibilefdmemaaDoorMinus
namespace Go.Proofs.YthpibilefdmemaaDoor
open Go.RowKit

theorem Fit.le {a : Option Addr} {n cap : Nat} (h : Fit a n cap) : n ≤ cap := h.1
/-- The results' blocks, and what was there before. -/
def Rs (w : World) (gs : List Nat) (c : World) : Prop := Below w.heap.size w c ∧ ∀ g ∈ gs, ∃ (n : Bool) (a : Option Addr) (l k : Nat), Blk c g 24 #[.bool n, .slice a l k]
section
variable {w c c' : World} {gs : List Nat}
theorem Rs.bel (h : Rs w gs c) : Below w.heap.size w c := h.1
theorem Rs.below (h : Rs w gs c) (hb : Below c.heap.size c c') : Rs w gs c' :=
  ⟨h.1.trans (hb.mono h.1.size), fun g hg => by obtain ⟨n, a, l, m, k⟩ := h.2 g hg; exact ⟨n, a, l, m, k.below hb k.lt⟩⟩
theorem Rs.drew (h : Rs w gs c) : Rs w gs c.drew := ⟨h.1.drew, h.2⟩
theorem Rs.far (h : Rs w gs c) {g : Nat} (hw : w.heap.size ≤ g) (hn : g ∉ gs) (i : Nat) (u : Value) : Rs w gs (c.setCell ⟨g, i, none⟩ u) :=
  ⟨h.1.setCell hw _, fun g' hg => by obtain ⟨n, a, l, m, k⟩ := h.2 g' hg; exact ⟨n, a, l, m, k.far (by rintro rfl; exact hn hg) _⟩⟩
theorem Rs.put (h : Rs w gs c) {g : Nat} (hw : w.heap.size ≤ g) (n : Bool) (a : Option Addr) (l m : Nat) : Rs w gs ((c.setCell ⟨g, 0, none⟩ (.bool n)).setCell ⟨g, 1, none⟩ (.slice a l m)) := by
  refine ⟨(h.1.setCell hw _).setCell hw _, fun g' hg => ?_⟩
  obtain ⟨n', a', l', m', k⟩ := h.2 g' hg
  by_cases e : g' = g
  · subst e; exact ⟨n, a, l, m, k.two _ _⟩
  · exact ⟨n', a', l', m', (k.far (by simpa using e) _).far (by simpa using e) _⟩
/-- What a store into a result's block asks and leaves. -/
theorem Rs.at (h : Rs w gs c) {g : Nat} (hg : g ∈ gs) (hb : Below c.heap.size c c') : ∃ (n : Bool) (a : Option Addr) (l k : Nat), c'.cell? ⟨g, 0, none⟩ = some (.bool n) ∧ c'.cell? ⟨g, 1, none⟩ = some (.slice a l k) ∧ c'.frozen? ⟨g, 0, none⟩ = false ∧ c'.frozen? ⟨g, 1, none⟩ = false ∧ Blk c' g 24 #[.bool n, .slice a l k] := by
  obtain ⟨n, a, l, m, k⟩ := h.2 g hg
  have k' := k.below hb k.lt
  obtain ⟨h0, h1, hf⟩ := k'.c2
  exact ⟨n, a, l, m, h0, h1, hf 0, hf 1, k'⟩
end

/-- Digits stand apart from an integer's own two cells. -/
theorem Dg.store {k : IntKind} {w : World} {a : Option Addr} {ds : List Nat} {g l m : Nat} {n : Bool} {b : Option Addr} (h : Dg k w a ds) (hB : Blk w g 24 #[.bool n, .slice b l m]) (x y : Value) : Dg k ((w.setCell ⟨g, 0, none⟩ x).setCell ⟨g, 1, none⟩ y) a ds := by
  intro hn
  obtain ⟨p, off, e, hc⟩ := h hn
  refine ⟨p, off, e, fun i hi => ?_⟩
  have h0 : (⟨g, 0, none⟩ : Addr) ≠ ⟨p, off + i, none⟩ := fun e => by
    have := hc i hi
    rw [← e, hB.cell 0] at this
    cases this
  have h1 : (⟨g, 1, none⟩ : Addr) ≠ ⟨p, off + i, none⟩ := fun e => by
    have := hc i hi
    rw [← e, hB.cell 1] at this
    cases this
  rw [World.cell?_setCell_other _ _ _ _ h1, World.cell?_setCell_other _ _ _ _ h0]
  exact hc i hi
theorem IntV.store {w : World} {v : Value} {z : Int} {g l m : Nat} {n : Bool} {b : Option Addr} (h : IntV w v z) (hB : Blk w g 24 #[.bool n, .slice b l m]) (x y : Value) : IntV ((w.setCell ⟨g, 0, none⟩ x).setCell ⟨g, 1, none⟩ y) v z := by
  obtain ⟨a, cap, e, hc, hd⟩ := h
  exact ⟨a, cap, e, hc, hd.store hB x y⟩
theorem IntV.parts {w : World} {v : Value} {z : Int} (h : IntV w v z) : ∃ (n : Bool) (a : Option Addr) (l k : Nat), v = .agg #[.bool n, .slice a l k] := by
  obtain ⟨a, cap, e, _, _⟩ := h
  exact ⟨_, _, _, _, e⟩

theorem plus_at {w c : World} {a b : Option Addr} {ca cb : Nat} {x y : List Nat} (hx : Dg .u32 w a x) (hy : Dg .u32 w b y) (dx : Digs BB x) (dy : Digs BB y) (hn : x.length ≤ 1099511627776) (hm : y.length ≤ 1099511627776) (hB : Below w.heap.size w c) :
    Calls Tryd.prog 65 #[.slice a x.length ca, .slice b y.length cb] c (DigPost c (val BB x + val BB y) (max x.length y.length + 1)) := plus_any a b ca cb x y c (hx.below hB (Nat.le_refl _)) (hy.below hB (Nat.le_refl _)) dx dy hn hm
theorem minus_at {w c : World} {a b : Option Addr} {ca cb : Nat} {x y : List Nat} (hx : Dg .u32 w a x) (hy : Dg .u32 w b y) (dx : Digs BB x) (dy : Digs BB y) (hn : x.length ≤ 1099511627776) (hle : y.length ≤ x.length) (hv : val BB y ≤ val BB x) (hB : Below w.heap.size w c) :
    Calls Tryd.prog 66 #[.slice a x.length ca, .slice b y.length cb] c (DigPost c (val BB x - val BB y) x.length) := minus_any a b ca cb x y c (hx.below hB (Nat.le_refl _)) (hy.below hB (Nat.le_refl _)) dx dy hn hle hv
theorem copied_at {w c : World} {a : Option Addr} {ca : Nat} {x : List Nat} (hx : Dg .u32 w a x) (hf : Fit a x.length ca) (dx : Digs BB x) (hn : x.length ≤ 1099511627776) (hB : Below w.heap.size w c) :
    Calls Tryd.prog 72 #[.slice a x.length ca] c (DigPost c (val BB x) x.length) := copied_any a ca x c (hx.below hB (Nat.le_refl _)) hf dx hn

section
variable {w c w1 : World} {gs : List Nat} {g2 g3 : Nat} {p q p' q' : Value}
theorem keep2 (h : c.cell? ⟨g2, 0, none⟩ = some p ∧ c.cell? ⟨g2, 1, none⟩ = some q ∧ c.cell? ⟨g3, 0, none⟩ = some p' ∧ c.cell? ⟨g3, 1, none⟩ = some q' ∧ c.frozen? ⟨g2, 0, none⟩ = false ∧ c.frozen? ⟨g2, 1, none⟩ = false ∧ c.frozen? ⟨g3, 0, none⟩ = false ∧ c.frozen? ⟨g3, 1, none⟩ = false ∧ Rs w gs c) (hb : Below c.heap.size c w1) :
    w1.cell? ⟨g2, 0, none⟩ = some p ∧ w1.cell? ⟨g2, 1, none⟩ = some q ∧ w1.cell? ⟨g3, 0, none⟩ = some p' ∧ w1.cell? ⟨g3, 1, none⟩ = some q' ∧ w1.frozen? ⟨g2, 0, none⟩ = false ∧ w1.frozen? ⟨g2, 1, none⟩ = false ∧ w1.frozen? ⟨g3, 0, none⟩ = false ∧ w1.frozen? ⟨g3, 1, none⟩ = false ∧ Rs w gs w1 := by
  obtain ⟨h1, h2, h3, h4, f1, f2, f3, f4, hB⟩ := h
  have l2 := World.block_lt_of_cell? c _ h1
  have l3 := World.block_lt_of_cell? c _ h3
  exact ⟨(hb.cell l2).trans h1, (hb.cell (p := ⟨g2, 1, none⟩) l2).trans h2, (hb.cell l3).trans h3, (hb.cell (p := ⟨g3, 1, none⟩) l3).trans h4, (hb.frozen l2).trans f1, (hb.frozen (p := ⟨g2, 1, none⟩) l2).trans f2, (hb.frozen l3).trans f3, (hb.frozen (p := ⟨g3, 1, none⟩) l3).trans f4, hB.below hb⟩
theorem keepA2 (hw : w.heap.size ≤ g2) (hne : g2 ≠ g3) (hgs : g2 ∉ gs) (h : c.cell? ⟨g2, 0, none⟩ = some p ∧ c.cell? ⟨g2, 1, none⟩ = some q ∧ c.cell? ⟨g3, 0, none⟩ = some p' ∧ c.cell? ⟨g3, 1, none⟩ = some q' ∧ c.frozen? ⟨g2, 0, none⟩ = false ∧ c.frozen? ⟨g2, 1, none⟩ = false ∧ c.frozen? ⟨g3, 0, none⟩ = false ∧ c.frozen? ⟨g3, 1, none⟩ = false ∧ Rs w gs c) :
    ((c.setCell ⟨g2, 0, none⟩ p).setCell ⟨g2, 1, none⟩ q).cell? ⟨g2, 0, none⟩ = some p ∧ ((c.setCell ⟨g2, 0, none⟩ p).setCell ⟨g2, 1, none⟩ q).cell? ⟨g2, 1, none⟩ = some q ∧ ((c.setCell ⟨g2, 0, none⟩ p).setCell ⟨g2, 1, none⟩ q).cell? ⟨g3, 0, none⟩ = some p' ∧ ((c.setCell ⟨g2, 0, none⟩ p).setCell ⟨g2, 1, none⟩ q).cell? ⟨g3, 1, none⟩ = some q' ∧ ((c.setCell ⟨g2, 0, none⟩ p).setCell ⟨g2, 1, none⟩ q).frozen? ⟨g2, 0, none⟩ = false ∧ ((c.setCell ⟨g2, 0, none⟩ p).setCell ⟨g2, 1, none⟩ q).frozen? ⟨g2, 1, none⟩ = false ∧ ((c.setCell ⟨g2, 0, none⟩ p).setCell ⟨g2, 1, none⟩ q).frozen? ⟨g3, 0, none⟩ = false ∧ ((c.setCell ⟨g2, 0, none⟩ p).setCell ⟨g2, 1, none⟩ q).frozen? ⟨g3, 1, none⟩ = false ∧ Rs w gs ((c.setCell ⟨g2, 0, none⟩ p).setCell ⟨g2, 1, none⟩ q) := by
  obtain ⟨h1, h2, h3, h4, f1, f2, f3, f4, hB⟩ := h
  refine ⟨?_, ?_, ?_, ?_, by simpa using f1, by simpa using f2, by simpa using f3, by simpa using f4, (hB.far hw hgs _ _).far hw hgs _ _⟩
  · rw [World.cell?_setCell_other _ _ _ _ (by simp)]; exact World.cell?_setCell_same _ _ _ h1
  · exact World.cell?_setCell_same _ _ _ ((World.cell?_setCell_other _ _ _ _ (by simp)).trans h2)
  · rw [World.cell?_setCell_other _ _ _ _ (fun e => hne (congrArg Addr.block e)), World.cell?_setCell_other _ _ _ _ (fun e => hne (congrArg Addr.block e))]; exact h3
  · rw [World.cell?_setCell_other _ _ _ _ (fun e => hne (congrArg Addr.block e)), World.cell?_setCell_other _ _ _ _ (fun e => hne (congrArg Addr.block e))]; exact h4
theorem keepB2 (hw : w.heap.size ≤ g3) (hne : g3 ≠ g2) (hgs : g3 ∉ gs) (h : c.cell? ⟨g2, 0, none⟩ = some p ∧ c.cell? ⟨g2, 1, none⟩ = some q ∧ c.cell? ⟨g3, 0, none⟩ = some p' ∧ c.cell? ⟨g3, 1, none⟩ = some q' ∧ c.frozen? ⟨g2, 0, none⟩ = false ∧ c.frozen? ⟨g2, 1, none⟩ = false ∧ c.frozen? ⟨g3, 0, none⟩ = false ∧ c.frozen? ⟨g3, 1, none⟩ = false ∧ Rs w gs c) :
    ((c.setCell ⟨g3, 0, none⟩ p').setCell ⟨g3, 1, none⟩ q').cell? ⟨g2, 0, none⟩ = some p ∧ ((c.setCell ⟨g3, 0, none⟩ p').setCell ⟨g3, 1, none⟩ q').cell? ⟨g2, 1, none⟩ = some q ∧ ((c.setCell ⟨g3, 0, none⟩ p').setCell ⟨g3, 1, none⟩ q').cell? ⟨g3, 0, none⟩ = some p' ∧ ((c.setCell ⟨g3, 0, none⟩ p').setCell ⟨g3, 1, none⟩ q').cell? ⟨g3, 1, none⟩ = some q' ∧ ((c.setCell ⟨g3, 0, none⟩ p').setCell ⟨g3, 1, none⟩ q').frozen? ⟨g2, 0, none⟩ = false ∧ ((c.setCell ⟨g3, 0, none⟩ p').setCell ⟨g3, 1, none⟩ q').frozen? ⟨g2, 1, none⟩ = false ∧ ((c.setCell ⟨g3, 0, none⟩ p').setCell ⟨g3, 1, none⟩ q').frozen? ⟨g3, 0, none⟩ = false ∧ ((c.setCell ⟨g3, 0, none⟩ p').setCell ⟨g3, 1, none⟩ q').frozen? ⟨g3, 1, none⟩ = false ∧ Rs w gs ((c.setCell ⟨g3, 0, none⟩ p').setCell ⟨g3, 1, none⟩ q') := by
  obtain ⟨h1, h2, h3, h4, f1, f2, f3, f4, hB⟩ := h
  obtain ⟨k3, k4, k1, k2, e3, e4, e1, e2, hB'⟩ := keepA2 hw hne hgs ⟨h3, h4, h1, h2, f3, f4, f1, f2, hB⟩
  exact ⟨k1, k2, k3, k4, e1, e2, e3, e4, hB'⟩
theorem keepC2 {g : Nat} (hw : w.heap.size ≤ g) (hg2 : g ≠ g2) (hg3 : g ≠ g3) (n : Bool) (a : Option Addr) (l m : Nat) (h : c.cell? ⟨g2, 0, none⟩ = some p ∧ c.cell? ⟨g2, 1, none⟩ = some q ∧ c.cell? ⟨g3, 0, none⟩ = some p' ∧ c.cell? ⟨g3, 1, none⟩ = some q' ∧ c.frozen? ⟨g2, 0, none⟩ = false ∧ c.frozen? ⟨g2, 1, none⟩ = false ∧ c.frozen? ⟨g3, 0, none⟩ = false ∧ c.frozen? ⟨g3, 1, none⟩ = false ∧ Rs w gs c) :
    ((c.setCell ⟨g, 0, none⟩ (.bool n)).setCell ⟨g, 1, none⟩ (.slice a l m)).cell? ⟨g2, 0, none⟩ = some p ∧ ((c.setCell ⟨g, 0, none⟩ (.bool n)).setCell ⟨g, 1, none⟩ (.slice a l m)).cell? ⟨g2, 1, none⟩ = some q ∧ ((c.setCell ⟨g, 0, none⟩ (.bool n)).setCell ⟨g, 1, none⟩ (.slice a l m)).cell? ⟨g3, 0, none⟩ = some p' ∧ ((c.setCell ⟨g, 0, none⟩ (.bool n)).setCell ⟨g, 1, none⟩ (.slice a l m)).cell? ⟨g3, 1, none⟩ = some q' ∧ ((c.setCell ⟨g, 0, none⟩ (.bool n)).setCell ⟨g, 1, none⟩ (.slice a l m)).frozen? ⟨g2, 0, none⟩ = false ∧ ((c.setCell ⟨g, 0, none⟩ (.bool n)).setCell ⟨g, 1, none⟩ (.slice a l m)).frozen? ⟨g2, 1, none⟩ = false ∧ ((c.setCell ⟨g, 0, none⟩ (.bool n)).setCell ⟨g, 1, none⟩ (.slice a l m)).frozen? ⟨g3, 0, none⟩ = false ∧ ((c.setCell ⟨g, 0, none⟩ (.bool n)).setCell ⟨g, 1, none⟩ (.slice a l m)).frozen? ⟨g3, 1, none⟩ = false ∧ Rs w gs ((c.setCell ⟨g, 0, none⟩ (.bool n)).setCell ⟨g, 1, none⟩ (.slice a l m)) := by
  obtain ⟨h1, h2, h3, h4, f1, f2, f3, f4, hB⟩ := h
  refine ⟨?_, ?_, ?_, ?_, by simpa using f1, by simpa using f2, by simpa using f3, by simpa using f4, hB.put hw _ _ _ _⟩
  · rw [World.cell?_setCell_other _ _ _ _ (fun e => hg2 (congrArg Addr.block e)), World.cell?_setCell_other _ _ _ _ (fun e => hg2 (congrArg Addr.block e))]; exact h1
  · rw [World.cell?_setCell_other _ _ _ _ (fun e => hg2 (congrArg Addr.block e)), World.cell?_setCell_other _ _ _ _ (fun e => hg2 (congrArg Addr.block e))]; exact h2
  · rw [World.cell?_setCell_other _ _ _ _ (fun e => hg3 (congrArg Addr.block e)), World.cell?_setCell_other _ _ _ _ (fun e => hg3 (congrArg Addr.block e))]; exact h3
  · rw [World.cell?_setCell_other _ _ _ _ (fun e => hg3 (congrArg Addr.block e)), World.cell?_setCell_other _ _ _ _ (fun e => hg3 (congrArg Addr.block e))]; exact h4
theorem keepSet (hw : w.heap.size ≤ g2) (hne : g2 ≠ g3) (hgs : g2 ∉ gs) (x y : Value) (h : c.cell? ⟨g2, 0, none⟩ = some p ∧ c.cell? ⟨g2, 1, none⟩ = some q ∧ c.cell? ⟨g3, 0, none⟩ = some p' ∧ c.cell? ⟨g3, 1, none⟩ = some q' ∧ c.frozen? ⟨g2, 0, none⟩ = false ∧ c.frozen? ⟨g2, 1, none⟩ = false ∧ c.frozen? ⟨g3, 0, none⟩ = false ∧ c.frozen? ⟨g3, 1, none⟩ = false ∧ Rs w gs c) :
    ((c.setCell ⟨g2, 0, none⟩ x).setCell ⟨g2, 1, none⟩ y).cell? ⟨g2, 0, none⟩ = some x ∧ ((c.setCell ⟨g2, 0, none⟩ x).setCell ⟨g2, 1, none⟩ y).cell? ⟨g2, 1, none⟩ = some y ∧ ((c.setCell ⟨g2, 0, none⟩ x).setCell ⟨g2, 1, none⟩ y).cell? ⟨g3, 0, none⟩ = some p' ∧ ((c.setCell ⟨g2, 0, none⟩ x).setCell ⟨g2, 1, none⟩ y).cell? ⟨g3, 1, none⟩ = some q' ∧ ((c.setCell ⟨g2, 0, none⟩ x).setCell ⟨g2, 1, none⟩ y).frozen? ⟨g2, 0, none⟩ = false ∧ ((c.setCell ⟨g2, 0, none⟩ x).setCell ⟨g2, 1, none⟩ y).frozen? ⟨g2, 1, none⟩ = false ∧ ((c.setCell ⟨g2, 0, none⟩ x).setCell ⟨g2, 1, none⟩ y).frozen? ⟨g3, 0, none⟩ = false ∧ ((c.setCell ⟨g2, 0, none⟩ x).setCell ⟨g2, 1, none⟩ y).frozen? ⟨g3, 1, none⟩ = false ∧ Rs w gs ((c.setCell ⟨g2, 0, none⟩ x).setCell ⟨g2, 1, none⟩ y) := by
  obtain ⟨h1, h2, h3, h4, f1, f2, f3, f4, hB⟩ := h
  refine ⟨?_, ?_, ?_, ?_, by simpa using f1, by simpa using f2, by simpa using f3, by simpa using f4, (hB.far hw hgs _ _).far hw hgs _ _⟩
  · rw [World.cell?_setCell_other _ _ _ _ (by simp)]; exact World.cell?_setCell_same _ _ _ h1
  · exact World.cell?_setCell_same _ _ _ ((World.cell?_setCell_other _ _ _ _ (by simp)).trans h2)
  · rw [World.cell?_setCell_other _ _ _ _ (fun e => hne (congrArg Addr.block e)), World.cell?_setCell_other _ _ _ _ (fun e => hne (congrArg Addr.block e))]; exact h3
  · rw [World.cell?_setCell_other _ _ _ _ (fun e => hne (congrArg Addr.block e)), World.cell?_setCell_other _ _ _ _ (fun e => hne (congrArg Addr.block e))]; exact h4
theorem keepSwap (hw : w.heap.size ≤ g2) (hw' : w.heap.size ≤ g3) (hne : g2 ≠ g3) (hgs : g2 ∉ gs) (hgs' : g3 ∉ gs) (h : c.cell? ⟨g2, 0, none⟩ = some p ∧ c.cell? ⟨g2, 1, none⟩ = some q ∧ c.cell? ⟨g3, 0, none⟩ = some p' ∧ c.cell? ⟨g3, 1, none⟩ = some q' ∧ c.frozen? ⟨g2, 0, none⟩ = false ∧ c.frozen? ⟨g2, 1, none⟩ = false ∧ c.frozen? ⟨g3, 0, none⟩ = false ∧ c.frozen? ⟨g3, 1, none⟩ = false ∧ Rs w gs c) :
    ((((c.setCell ⟨g2, 0, none⟩ p').setCell ⟨g2, 1, none⟩ q').setCell ⟨g3, 0, none⟩ p).setCell ⟨g3, 1, none⟩ q).cell? ⟨g2, 0, none⟩ = some p' ∧ ((((c.setCell ⟨g2, 0, none⟩ p').setCell ⟨g2, 1, none⟩ q').setCell ⟨g3, 0, none⟩ p).setCell ⟨g3, 1, none⟩ q).cell? ⟨g2, 1, none⟩ = some q' ∧ ((((c.setCell ⟨g2, 0, none⟩ p').setCell ⟨g2, 1, none⟩ q').setCell ⟨g3, 0, none⟩ p).setCell ⟨g3, 1, none⟩ q).cell? ⟨g3, 0, none⟩ = some p ∧ ((((c.setCell ⟨g2, 0, none⟩ p').setCell ⟨g2, 1, none⟩ q').setCell ⟨g3, 0, none⟩ p).setCell ⟨g3, 1, none⟩ q).cell? ⟨g3, 1, none⟩ = some q ∧ ((((c.setCell ⟨g2, 0, none⟩ p').setCell ⟨g2, 1, none⟩ q').setCell ⟨g3, 0, none⟩ p).setCell ⟨g3, 1, none⟩ q).frozen? ⟨g2, 0, none⟩ = false ∧ ((((c.setCell ⟨g2, 0, none⟩ p').setCell ⟨g2, 1, none⟩ q').setCell ⟨g3, 0, none⟩ p).setCell ⟨g3, 1, none⟩ q).frozen? ⟨g2, 1, none⟩ = false ∧ ((((c.setCell ⟨g2, 0, none⟩ p').setCell ⟨g2, 1, none⟩ q').setCell ⟨g3, 0, none⟩ p).setCell ⟨g3, 1, none⟩ q).frozen? ⟨g3, 0, none⟩ = false ∧ ((((c.setCell ⟨g2, 0, none⟩ p').setCell ⟨g2, 1, none⟩ q').setCell ⟨g3, 0, none⟩ p).setCell ⟨g3, 1, none⟩ q).frozen? ⟨g3, 1, none⟩ = false ∧ Rs w gs ((((c.setCell ⟨g2, 0, none⟩ p').setCell ⟨g2, 1, none⟩ q').setCell ⟨g3, 0, none⟩ p).setCell ⟨g3, 1, none⟩ q) := by
  obtain ⟨h1, h2, h3, h4, f1, f2, f3, f4, hB⟩ := keepSet hw hne hgs p' q' h
  obtain ⟨k3, k4, k1, k2, e3, e4, e1, e2, hB'⟩ := keepSet hw' hne.symm hgs' p q ⟨h3, h4, h1, h2, f3, f4, f1, f2, hB⟩
  exact ⟨k1, k2, k3, k4, e1, e2, e3, e4, hB'⟩
theorem keepFar {g i : Nat} (hw : w.heap.size ≤ g) (hg2 : g ≠ g2) (hg3 : g ≠ g3) (hgs : g ∉ gs) (u : Value) (h : c.cell? ⟨g2, 0, none⟩ = some p ∧ c.cell? ⟨g2, 1, none⟩ = some q ∧ c.cell? ⟨g3, 0, none⟩ = some p' ∧ c.cell? ⟨g3, 1, none⟩ = some q' ∧ c.frozen? ⟨g2, 0, none⟩ = false ∧ c.frozen? ⟨g2, 1, none⟩ = false ∧ c.frozen? ⟨g3, 0, none⟩ = false ∧ c.frozen? ⟨g3, 1, none⟩ = false ∧ Rs w gs c) :
    (c.setCell ⟨g, i, none⟩ u).cell? ⟨g2, 0, none⟩ = some p ∧ (c.setCell ⟨g, i, none⟩ u).cell? ⟨g2, 1, none⟩ = some q ∧ (c.setCell ⟨g, i, none⟩ u).cell? ⟨g3, 0, none⟩ = some p' ∧ (c.setCell ⟨g, i, none⟩ u).cell? ⟨g3, 1, none⟩ = some q' ∧ (c.setCell ⟨g, i, none⟩ u).frozen? ⟨g2, 0, none⟩ = false ∧ (c.setCell ⟨g, i, none⟩ u).frozen? ⟨g2, 1, none⟩ = false ∧ (c.setCell ⟨g, i, none⟩ u).frozen? ⟨g3, 0, none⟩ = false ∧ (c.setCell ⟨g, i, none⟩ u).frozen? ⟨g3, 1, none⟩ = false ∧ Rs w gs (c.setCell ⟨g, i, none⟩ u) := by
  obtain ⟨h1, h2, h3, h4, f1, f2, f3, f4, hB⟩ := h
  refine ⟨?_, ?_, ?_, ?_, by simpa using f1, by simpa using f2, by simpa using f3, by simpa using f4, hB.far hw hgs _ _⟩
  · rw [World.cell?_setCell_other _ _ _ _ (fun e => hg2 (congrArg Addr.block e))]; exact h1
  · rw [World.cell?_setCell_other _ _ _ _ (fun e => hg2 (congrArg Addr.block e))]; exact h2
  · rw [World.cell?_setCell_other _ _ _ _ (fun e => hg3 (congrArg Addr.block e))]; exact h3
  · rw [World.cell?_setCell_other _ _ _ _ (fun e => hg3 (congrArg Addr.block e))]; exact h4
theorem keep1 (h : c.cell? ⟨g2, 0, none⟩ = some p ∧ c.cell? ⟨g2, 1, none⟩ = some q ∧ c.frozen? ⟨g2, 0, none⟩ = false ∧ c.frozen? ⟨g2, 1, none⟩ = false ∧ Rs w gs c) (hb : Below c.heap.size c w1) : w1.cell? ⟨g2, 0, none⟩ = some p ∧ w1.cell? ⟨g2, 1, none⟩ = some q ∧ w1.frozen? ⟨g2, 0, none⟩ = false ∧ w1.frozen? ⟨g2, 1, none⟩ = false ∧ Rs w gs w1 := by
  obtain ⟨h1, h2, f1, f2, hB⟩ := h
  have l2 := World.block_lt_of_cell? c _ h1
  exact ⟨(hb.cell l2).trans h1, (hb.cell (p := ⟨g2, 1, none⟩) l2).trans h2, (hb.frozen l2).trans f1, (hb.frozen (p := ⟨g2, 1, none⟩) l2).trans f2, hB.below hb⟩
theorem keepC1 {g : Nat} (hw : w.heap.size ≤ g) (hg2 : g ≠ g2) (n : Bool) (a : Option Addr) (l m : Nat) (h : c.cell? ⟨g2, 0, none⟩ = some p ∧ c.cell? ⟨g2, 1, none⟩ = some q ∧ c.frozen? ⟨g2, 0, none⟩ = false ∧ c.frozen? ⟨g2, 1, none⟩ = false ∧ Rs w gs c) :
    ((c.setCell ⟨g, 0, none⟩ (.bool n)).setCell ⟨g, 1, none⟩ (.slice a l m)).cell? ⟨g2, 0, none⟩ = some p ∧ ((c.setCell ⟨g, 0, none⟩ (.bool n)).setCell ⟨g, 1, none⟩ (.slice a l m)).cell? ⟨g2, 1, none⟩ = some q ∧ ((c.setCell ⟨g, 0, none⟩ (.bool n)).setCell ⟨g, 1, none⟩ (.slice a l m)).frozen? ⟨g2, 0, none⟩ = false ∧ ((c.setCell ⟨g, 0, none⟩ (.bool n)).setCell ⟨g, 1, none⟩ (.slice a l m)).frozen? ⟨g2, 1, none⟩ = false ∧ Rs w gs ((c.setCell ⟨g, 0, none⟩ (.bool n)).setCell ⟨g, 1, none⟩ (.slice a l m)) := by
  obtain ⟨h1, h2, f1, f2, hB⟩ := h
  refine ⟨?_, ?_, by simpa using f1, by simpa using f2, hB.put hw _ _ _ _⟩
  · rw [World.cell?_setCell_other _ _ _ _ (fun e => hg2 (congrArg Addr.block e)), World.cell?_setCell_other _ _ _ _ (fun e => hg2 (congrArg Addr.block e))]; exact h1
  · rw [World.cell?_setCell_other _ _ _ _ (fun e => hg2 (congrArg Addr.block e)), World.cell?_setCell_other _ _ _ _ (fun e => hg2 (congrArg Addr.block e))]; exact h2
end
/-- The two boxes and the results' blocks at a world. -/
def Box (w : World) (gs : List Nat) (p q p' q' : Value) (c : World) : Prop := c.cell? ⟨w.heap.size, 0, none⟩ = some p ∧ c.cell? ⟨w.heap.size, 1, none⟩ = some q ∧ c.cell? ⟨w.heap.size + 1, 0, none⟩ = some p' ∧ c.cell? ⟨w.heap.size + 1, 1, none⟩ = some q' ∧ c.frozen? ⟨w.heap.size, 0, none⟩ = false ∧ c.frozen? ⟨w.heap.size, 1, none⟩ = false ∧ c.frozen? ⟨w.heap.size + 1, 0, none⟩ = false ∧ c.frozen? ⟨w.heap.size + 1, 1, none⟩ = false ∧ Rs w gs c
end Go.Proofs.YthpibilefdmemaaDoor
