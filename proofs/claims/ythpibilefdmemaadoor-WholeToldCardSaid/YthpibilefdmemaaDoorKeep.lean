/- What regions keep: cells, and the result's block. -/
import Derived.Test.YthpibilefdmemaaDoorROf
import Derived.Deep.RegionHeld3
namespace Go.Proofs.YthpibilefdmemaaDoor
open Go.RowKit

def isB (v : Value) : Prop := ∃ n, v = .bool n
def isS (v : Value) : Prop := ∃ a l k, v = .slice a l k
theorem isB_of (n : Bool) : isB (.bool n) := ⟨_, rfl⟩
theorem isS_of (a : Option Addr) (l k : Nat) : isS (.slice a l k) := ⟨_, _, _, rfl⟩
/-- The result's block is there; what was there before is as it was. -/
structure Kp (w : World) (t : TypeId) (g : Nat) (c : World) : Prop where
  bel : Below w.heap.size w c
  le : w.heap.size ≤ g
  blk : ∃ (n : Bool) (a : Option Addr) (l k : Nat), Blk c g t #[.bool n, .slice a l k]
section
variable {w c w1 : World} {t : TypeId} {g : Nat}
theorem Kp.below (h : Kp w t g c) (hb : Below c.heap.size c w1) : Kp w t g w1 := by
  obtain ⟨h1, h2, n, a, l, k, h3⟩ := h
  exact ⟨h1.trans (hb.mono h1.size), h2, n, a, l, k, h3.below hb h3.lt⟩
theorem Kp.drew (h : Kp w t g c) : Kp w t g c.drew := ⟨h.1.drew, h.2, h.3⟩
theorem Kp.drewN (h : Kp w t g c) (n : Nat) : Kp w t g (c.drewN n) := ⟨below_drewN h.1 n, h.2, h.3⟩
theorem Kp.put {p q : Value} (hp : isB p) (hq : isS q) (h : Kp w t g c) : Kp w t g ((c.setCell ⟨g, 0, none⟩ p).setCell ⟨g, 1, none⟩ q) := by
  obtain ⟨h1, h2, n, a, l, k, h3⟩ := h
  obtain ⟨n', rfl⟩ := hp
  obtain ⟨a', l', k', rfl⟩ := hq
  exact ⟨(h1.setCell h2 _).setCell h2 _, h2, n', a', l', k', h3.two _ _⟩
/-- What a store into the result's block asks and leaves. -/
theorem Kp.at (h : Kp w t g c) (hb : Below c.heap.size c w1) : ∃ (n : Bool) (a : Option Addr) (l k : Nat), w1.cell? ⟨g, 0, none⟩ = some (.bool n) ∧ w1.cell? ⟨g, 1, none⟩ = some (.slice a l k) ∧ w1.frozen? ⟨g, 0, none⟩ = false ∧ w1.frozen? ⟨g, 1, none⟩ = false ∧ Blk w1 g t #[.bool n, .slice a l k] := by
  obtain ⟨h1, h2, n, a, l, m, k⟩ := h
  have k' := k.below hb k.lt
  obtain ⟨c0, c1, hf⟩ := k'.c2
  exact ⟨n, a, l, m, c0, c1, hf 0, hf 1, k'⟩
theorem cellK {a : Addr} {v : Value} (hb : Below c.heap.size c w1) (h : c.cell? a = some v) : w1.cell? a = some v := (hb.cell (World.block_lt_of_cell? c _ h)).trans h
theorem cellF {a : Addr} {p q v : Value} (hne : a.block ≠ g) (h : c.cell? a = some v) : ((c.setCell ⟨g, 0, none⟩ p).setCell ⟨g, 1, none⟩ q).cell? a = some v := by
  rw [World.cell?_setCell_other _ _ _ _ (fun e => hne (congrArg Addr.block e.symm)), World.cell?_setCell_other _ _ _ _ (fun e => hne (congrArg Addr.block e.symm))]
  exact h
end
theorem keepK1 {w c w1 : World} {t : TypeId} {g : Nat} {g0 o0 : Nat} {v0 : Value} (h : c.cell? ⟨g0, o0, none⟩ = some v0 ∧ Kp w t g c) (hb : Below c.heap.size c w1) : w1.cell? ⟨g0, o0, none⟩ = some v0 ∧ Kp w t g w1 := by
  obtain ⟨h0, hk⟩ := h
  exact ⟨cellK hb h0, hk.below hb⟩
theorem keepP1 {w c : World} {t : TypeId} {g : Nat} {g0 o0 : Nat} {v0 : Value} (d0 : g0 ≠ g) (p q : Value) (hp : isB p) (hq : isS q) (h : c.cell? ⟨g0, o0, none⟩ = some v0 ∧ Kp w t g c) : ((c.setCell ⟨g, 0, none⟩ p).setCell ⟨g, 1, none⟩ q).cell? ⟨g0, o0, none⟩ = some v0 ∧ Kp w t g ((c.setCell ⟨g, 0, none⟩ p).setCell ⟨g, 1, none⟩ q) := by
  obtain ⟨h0, hk⟩ := h
  exact ⟨cellF (a := ⟨g0, o0, none⟩) d0 h0, hk.put hp hq⟩
theorem keepK2 {w c w1 : World} {t : TypeId} {g : Nat} {g0 o0 g1 o1 : Nat} {v0 v1 : Value} (h : c.cell? ⟨g0, o0, none⟩ = some v0 ∧ c.cell? ⟨g1, o1, none⟩ = some v1 ∧ Kp w t g c) (hb : Below c.heap.size c w1) : w1.cell? ⟨g0, o0, none⟩ = some v0 ∧ w1.cell? ⟨g1, o1, none⟩ = some v1 ∧ Kp w t g w1 := by
  obtain ⟨h0, h1, hk⟩ := h
  exact ⟨cellK hb h0, cellK hb h1, hk.below hb⟩
theorem keepP2 {w c : World} {t : TypeId} {g : Nat} {g0 o0 g1 o1 : Nat} {v0 v1 : Value} (d0 : g0 ≠ g) (d1 : g1 ≠ g) (p q : Value) (hp : isB p) (hq : isS q) (h : c.cell? ⟨g0, o0, none⟩ = some v0 ∧ c.cell? ⟨g1, o1, none⟩ = some v1 ∧ Kp w t g c) : ((c.setCell ⟨g, 0, none⟩ p).setCell ⟨g, 1, none⟩ q).cell? ⟨g0, o0, none⟩ = some v0 ∧ ((c.setCell ⟨g, 0, none⟩ p).setCell ⟨g, 1, none⟩ q).cell? ⟨g1, o1, none⟩ = some v1 ∧ Kp w t g ((c.setCell ⟨g, 0, none⟩ p).setCell ⟨g, 1, none⟩ q) := by
  obtain ⟨h0, h1, hk⟩ := h
  exact ⟨cellF (a := ⟨g0, o0, none⟩) d0 h0, cellF (a := ⟨g1, o1, none⟩) d1 h1, hk.put hp hq⟩
theorem keepK3 {w c w1 : World} {t : TypeId} {g : Nat} {g0 o0 g1 o1 g2 o2 : Nat} {v0 v1 v2 : Value} (h : c.cell? ⟨g0, o0, none⟩ = some v0 ∧ c.cell? ⟨g1, o1, none⟩ = some v1 ∧ c.cell? ⟨g2, o2, none⟩ = some v2 ∧ Kp w t g c) (hb : Below c.heap.size c w1) : w1.cell? ⟨g0, o0, none⟩ = some v0 ∧ w1.cell? ⟨g1, o1, none⟩ = some v1 ∧ w1.cell? ⟨g2, o2, none⟩ = some v2 ∧ Kp w t g w1 := by
  obtain ⟨h0, h1, h2, hk⟩ := h
  exact ⟨cellK hb h0, cellK hb h1, cellK hb h2, hk.below hb⟩
theorem keepP3 {w c : World} {t : TypeId} {g : Nat} {g0 o0 g1 o1 g2 o2 : Nat} {v0 v1 v2 : Value} (d0 : g0 ≠ g) (d1 : g1 ≠ g) (d2 : g2 ≠ g) (p q : Value) (hp : isB p) (hq : isS q) (h : c.cell? ⟨g0, o0, none⟩ = some v0 ∧ c.cell? ⟨g1, o1, none⟩ = some v1 ∧ c.cell? ⟨g2, o2, none⟩ = some v2 ∧ Kp w t g c) : ((c.setCell ⟨g, 0, none⟩ p).setCell ⟨g, 1, none⟩ q).cell? ⟨g0, o0, none⟩ = some v0 ∧ ((c.setCell ⟨g, 0, none⟩ p).setCell ⟨g, 1, none⟩ q).cell? ⟨g1, o1, none⟩ = some v1 ∧ ((c.setCell ⟨g, 0, none⟩ p).setCell ⟨g, 1, none⟩ q).cell? ⟨g2, o2, none⟩ = some v2 ∧ Kp w t g ((c.setCell ⟨g, 0, none⟩ p).setCell ⟨g, 1, none⟩ q) := by
  obtain ⟨h0, h1, h2, hk⟩ := h
  exact ⟨cellF (a := ⟨g0, o0, none⟩) d0 h0, cellF (a := ⟨g1, o1, none⟩) d1 h1, cellF (a := ⟨g2, o2, none⟩) d2 h2, hk.put hp hq⟩
theorem keepK4 {w c w1 : World} {t : TypeId} {g : Nat} {g0 o0 g1 o1 g2 o2 g3 o3 : Nat} {v0 v1 v2 v3 : Value} (h : c.cell? ⟨g0, o0, none⟩ = some v0 ∧ c.cell? ⟨g1, o1, none⟩ = some v1 ∧ c.cell? ⟨g2, o2, none⟩ = some v2 ∧ c.cell? ⟨g3, o3, none⟩ = some v3 ∧ Kp w t g c) (hb : Below c.heap.size c w1) : w1.cell? ⟨g0, o0, none⟩ = some v0 ∧ w1.cell? ⟨g1, o1, none⟩ = some v1 ∧ w1.cell? ⟨g2, o2, none⟩ = some v2 ∧ w1.cell? ⟨g3, o3, none⟩ = some v3 ∧ Kp w t g w1 := by
  obtain ⟨h0, h1, h2, h3, hk⟩ := h
  exact ⟨cellK hb h0, cellK hb h1, cellK hb h2, cellK hb h3, hk.below hb⟩
theorem keepP4 {w c : World} {t : TypeId} {g : Nat} {g0 o0 g1 o1 g2 o2 g3 o3 : Nat} {v0 v1 v2 v3 : Value} (d0 : g0 ≠ g) (d1 : g1 ≠ g) (d2 : g2 ≠ g) (d3 : g3 ≠ g) (p q : Value) (hp : isB p) (hq : isS q) (h : c.cell? ⟨g0, o0, none⟩ = some v0 ∧ c.cell? ⟨g1, o1, none⟩ = some v1 ∧ c.cell? ⟨g2, o2, none⟩ = some v2 ∧ c.cell? ⟨g3, o3, none⟩ = some v3 ∧ Kp w t g c) : ((c.setCell ⟨g, 0, none⟩ p).setCell ⟨g, 1, none⟩ q).cell? ⟨g0, o0, none⟩ = some v0 ∧ ((c.setCell ⟨g, 0, none⟩ p).setCell ⟨g, 1, none⟩ q).cell? ⟨g1, o1, none⟩ = some v1 ∧ ((c.setCell ⟨g, 0, none⟩ p).setCell ⟨g, 1, none⟩ q).cell? ⟨g2, o2, none⟩ = some v2 ∧ ((c.setCell ⟨g, 0, none⟩ p).setCell ⟨g, 1, none⟩ q).cell? ⟨g3, o3, none⟩ = some v3 ∧ Kp w t g ((c.setCell ⟨g, 0, none⟩ p).setCell ⟨g, 1, none⟩ q) := by
  obtain ⟨h0, h1, h2, h3, hk⟩ := h
  exact ⟨cellF (a := ⟨g0, o0, none⟩) d0 h0, cellF (a := ⟨g1, o1, none⟩) d1 h1, cellF (a := ⟨g2, o2, none⟩) d2 h2, cellF (a := ⟨g3, o3, none⟩) d3 h3, hk.put hp hq⟩
theorem keepK6 {w c w1 : World} {t : TypeId} {g : Nat} {g0 o0 g1 o1 g2 o2 g3 o3 g4 o4 g5 o5 : Nat} {v0 v1 v2 v3 v4 v5 : Value} (h : c.cell? ⟨g0, o0, none⟩ = some v0 ∧ c.cell? ⟨g1, o1, none⟩ = some v1 ∧ c.cell? ⟨g2, o2, none⟩ = some v2 ∧ c.cell? ⟨g3, o3, none⟩ = some v3 ∧ c.cell? ⟨g4, o4, none⟩ = some v4 ∧ c.cell? ⟨g5, o5, none⟩ = some v5 ∧ Kp w t g c) (hb : Below c.heap.size c w1) : w1.cell? ⟨g0, o0, none⟩ = some v0 ∧ w1.cell? ⟨g1, o1, none⟩ = some v1 ∧ w1.cell? ⟨g2, o2, none⟩ = some v2 ∧ w1.cell? ⟨g3, o3, none⟩ = some v3 ∧ w1.cell? ⟨g4, o4, none⟩ = some v4 ∧ w1.cell? ⟨g5, o5, none⟩ = some v5 ∧ Kp w t g w1 := by
  obtain ⟨h0, h1, h2, h3, h4, h5, hk⟩ := h
  exact ⟨cellK hb h0, cellK hb h1, cellK hb h2, cellK hb h3, cellK hb h4, cellK hb h5, hk.below hb⟩
theorem keepP6 {w c : World} {t : TypeId} {g : Nat} {g0 o0 g1 o1 g2 o2 g3 o3 g4 o4 g5 o5 : Nat} {v0 v1 v2 v3 v4 v5 : Value} (d0 : g0 ≠ g) (d1 : g1 ≠ g) (d2 : g2 ≠ g) (d3 : g3 ≠ g) (d4 : g4 ≠ g) (d5 : g5 ≠ g) (p q : Value) (hp : isB p) (hq : isS q) (h : c.cell? ⟨g0, o0, none⟩ = some v0 ∧ c.cell? ⟨g1, o1, none⟩ = some v1 ∧ c.cell? ⟨g2, o2, none⟩ = some v2 ∧ c.cell? ⟨g3, o3, none⟩ = some v3 ∧ c.cell? ⟨g4, o4, none⟩ = some v4 ∧ c.cell? ⟨g5, o5, none⟩ = some v5 ∧ Kp w t g c) : ((c.setCell ⟨g, 0, none⟩ p).setCell ⟨g, 1, none⟩ q).cell? ⟨g0, o0, none⟩ = some v0 ∧ ((c.setCell ⟨g, 0, none⟩ p).setCell ⟨g, 1, none⟩ q).cell? ⟨g1, o1, none⟩ = some v1 ∧ ((c.setCell ⟨g, 0, none⟩ p).setCell ⟨g, 1, none⟩ q).cell? ⟨g2, o2, none⟩ = some v2 ∧ ((c.setCell ⟨g, 0, none⟩ p).setCell ⟨g, 1, none⟩ q).cell? ⟨g3, o3, none⟩ = some v3 ∧ ((c.setCell ⟨g, 0, none⟩ p).setCell ⟨g, 1, none⟩ q).cell? ⟨g4, o4, none⟩ = some v4 ∧ ((c.setCell ⟨g, 0, none⟩ p).setCell ⟨g, 1, none⟩ q).cell? ⟨g5, o5, none⟩ = some v5 ∧ Kp w t g ((c.setCell ⟨g, 0, none⟩ p).setCell ⟨g, 1, none⟩ q) := by
  obtain ⟨h0, h1, h2, h3, h4, h5, hk⟩ := h
  exact ⟨cellF (a := ⟨g0, o0, none⟩) d0 h0, cellF (a := ⟨g1, o1, none⟩) d1 h1, cellF (a := ⟨g2, o2, none⟩) d2 h2, cellF (a := ⟨g3, o3, none⟩) d3 h3, cellF (a := ⟨g4, o4, none⟩) d4 h4, cellF (a := ⟨g5, o5, none⟩) d5 h5, hk.put hp hq⟩
theorem keepK8 {w c w1 : World} {t : TypeId} {g : Nat} {g0 o0 g1 o1 g2 o2 g3 o3 g4 o4 g5 o5 g6 o6 g7 o7 : Nat} {v0 v1 v2 v3 v4 v5 v6 v7 : Value} (h : c.cell? ⟨g0, o0, none⟩ = some v0 ∧ c.cell? ⟨g1, o1, none⟩ = some v1 ∧ c.cell? ⟨g2, o2, none⟩ = some v2 ∧ c.cell? ⟨g3, o3, none⟩ = some v3 ∧ c.cell? ⟨g4, o4, none⟩ = some v4 ∧ c.cell? ⟨g5, o5, none⟩ = some v5 ∧ c.cell? ⟨g6, o6, none⟩ = some v6 ∧ c.cell? ⟨g7, o7, none⟩ = some v7 ∧ Kp w t g c) (hb : Below c.heap.size c w1) : w1.cell? ⟨g0, o0, none⟩ = some v0 ∧ w1.cell? ⟨g1, o1, none⟩ = some v1 ∧ w1.cell? ⟨g2, o2, none⟩ = some v2 ∧ w1.cell? ⟨g3, o3, none⟩ = some v3 ∧ w1.cell? ⟨g4, o4, none⟩ = some v4 ∧ w1.cell? ⟨g5, o5, none⟩ = some v5 ∧ w1.cell? ⟨g6, o6, none⟩ = some v6 ∧ w1.cell? ⟨g7, o7, none⟩ = some v7 ∧ Kp w t g w1 := by
  obtain ⟨h0, h1, h2, h3, h4, h5, h6, h7, hk⟩ := h
  exact ⟨cellK hb h0, cellK hb h1, cellK hb h2, cellK hb h3, cellK hb h4, cellK hb h5, cellK hb h6, cellK hb h7, hk.below hb⟩
theorem keepP8 {w c : World} {t : TypeId} {g : Nat} {g0 o0 g1 o1 g2 o2 g3 o3 g4 o4 g5 o5 g6 o6 g7 o7 : Nat} {v0 v1 v2 v3 v4 v5 v6 v7 : Value} (d0 : g0 ≠ g) (d1 : g1 ≠ g) (d2 : g2 ≠ g) (d3 : g3 ≠ g) (d4 : g4 ≠ g) (d5 : g5 ≠ g) (d6 : g6 ≠ g) (d7 : g7 ≠ g) (p q : Value) (hp : isB p) (hq : isS q) (h : c.cell? ⟨g0, o0, none⟩ = some v0 ∧ c.cell? ⟨g1, o1, none⟩ = some v1 ∧ c.cell? ⟨g2, o2, none⟩ = some v2 ∧ c.cell? ⟨g3, o3, none⟩ = some v3 ∧ c.cell? ⟨g4, o4, none⟩ = some v4 ∧ c.cell? ⟨g5, o5, none⟩ = some v5 ∧ c.cell? ⟨g6, o6, none⟩ = some v6 ∧ c.cell? ⟨g7, o7, none⟩ = some v7 ∧ Kp w t g c) : ((c.setCell ⟨g, 0, none⟩ p).setCell ⟨g, 1, none⟩ q).cell? ⟨g0, o0, none⟩ = some v0 ∧ ((c.setCell ⟨g, 0, none⟩ p).setCell ⟨g, 1, none⟩ q).cell? ⟨g1, o1, none⟩ = some v1 ∧ ((c.setCell ⟨g, 0, none⟩ p).setCell ⟨g, 1, none⟩ q).cell? ⟨g2, o2, none⟩ = some v2 ∧ ((c.setCell ⟨g, 0, none⟩ p).setCell ⟨g, 1, none⟩ q).cell? ⟨g3, o3, none⟩ = some v3 ∧ ((c.setCell ⟨g, 0, none⟩ p).setCell ⟨g, 1, none⟩ q).cell? ⟨g4, o4, none⟩ = some v4 ∧ ((c.setCell ⟨g, 0, none⟩ p).setCell ⟨g, 1, none⟩ q).cell? ⟨g5, o5, none⟩ = some v5 ∧ ((c.setCell ⟨g, 0, none⟩ p).setCell ⟨g, 1, none⟩ q).cell? ⟨g6, o6, none⟩ = some v6 ∧ ((c.setCell ⟨g, 0, none⟩ p).setCell ⟨g, 1, none⟩ q).cell? ⟨g7, o7, none⟩ = some v7 ∧ Kp w t g ((c.setCell ⟨g, 0, none⟩ p).setCell ⟨g, 1, none⟩ q) := by
  obtain ⟨h0, h1, h2, h3, h4, h5, h6, h7, hk⟩ := h
  exact ⟨cellF (a := ⟨g0, o0, none⟩) d0 h0, cellF (a := ⟨g1, o1, none⟩) d1 h1, cellF (a := ⟨g2, o2, none⟩) d2 h2, cellF (a := ⟨g3, o3, none⟩) d3 h3, cellF (a := ⟨g4, o4, none⟩) d4 h4, cellF (a := ⟨g5, o5, none⟩) d5 h5, cellF (a := ⟨g6, o6, none⟩) d6 h6, cellF (a := ⟨g7, o7, none⟩) d7 h7, hk.put hp hq⟩
end Go.Proofs.YthpibilefdmemaaDoor
