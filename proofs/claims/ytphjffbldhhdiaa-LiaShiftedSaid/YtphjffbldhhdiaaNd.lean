/- Texts in one file: RNum, RDig, ROf, Keep, RForm, RArith, RMul, RDiv, RGcd, RText, Order, Rules, Told. -/
import Derived.Test.YtphjffbldhhdiaaNa
import Derived.Test.YtphjffbldhhdiaaNb
import Derived.Deep.RegionHeld3
import Derived.RegionTactic
import Derived.BigRegion
import Derived.Test.YtphjffbldhhdiaaNc
import Derived.Laws.IdiomStrings
namespace Go.Proofs.Ytphjffbldhhdiaa
open Go.RowKit

theorem info64 : (Try.prog.info? 3).map (fun i => (i.zero, i.size, i.bytes)) = some (some (.int .i64 0), 1, 8) := by kernel_rfl

/-- A slice of digits that is the call's own. -/
def OwnE (w : World) (base : Nat) (v : Value) (ds : List Nat) : Prop := w.ownsRow base 3 1 v ds.length (dcells .i64 ds)

theorem OwnE.nil (w : World) (base : Nat) : OwnE w base (.slice none 0 0) [] := ⟨rfl, .inl ⟨rfl, rfl⟩⟩
theorem OwnE.alloc {w : World} {base : Nat} {v : Value} {ds : List Nat} (h : OwnE w base v ds) (o : Obj) : OwnE (w.alloc o) base v ds := World.ownsRow.alloc h o
theorem OwnE.below {w w' : World} {base : Nat} {v : Value} {ds : List Nat} (h : OwnE w base v ds) (hb : Below w.heap.size w w') : OwnE w' base v ds :=
 h.kept (row := none) ⟨hb.os, hb.tape, hb.output, hb.size, fun i hi _ => hb.block i hi⟩ (by cases v.ownBlock <;> simp)

theorem wpList_append_int {w : World} {ops : Array Oper} {rest : List Oper} {o : Oper} {a : Act} {Q : Exit → Act → World → Prop} (hgd : o.guard = none) (s x : Operand)
  (ho : o.op = .call { callee := .builtin .append, args := #[s, x], argTypes := #[26, 26] })
  (base : Nat) (v : Value) (ds : List Nat) (hs : a.eval s = v) (hown : OwnE w base v ds) (ad : Addr) (d : Nat) (hx : a.eval x = .slice (some ad) 1 1) (hc : w.cell? (ad.add 0) = some (.int .i64 (d : Int)))
  (hlen : ds.length + 1 ≤ 2199023255552) (hbase : base ≤ w.heap.size)
  (h : ∀ v' w', OwnE w' base v' (ds ++ [d]) → Below base w w' → wpList Try.prog ops Q rest (a.put o.dst v') w') : wpList Try.prog ops Q (o :: rest) a w := by
 obtain ⟨i0, hi0, hz0, hz1, hz2⟩ := info_parts info64
 have hnews : ∀ j u, (dcells .i64 [d])[j]? = some u → w.cell? (ad.add j) = some u := by
  intro j u hj
  rcases j with _ | j
  ·simp [dcells] at hj; rw [hc, hj]
  ·simp [dcells] at hj
 refine wpList_append_own w hgd s x 26 ho base 3 i0 (.int .i64 0) 1 8 Try.underlying26 hi0 hz0 hz1 hz2 rfl (by decide) v ds.length (dcells .i64 ds) hs hown ad 1 1 (dcells .i64 [d]) hx rfl hnews (dcells_one _ _) (by unfold maxLen; omega) (by omega) hbase (fun v' w' h2 h3 _ => ?_)
 refine h v' w' ?_ (below_of_grown h3 (fun g hg => (World.ownsRow.lt hown g hg).1) hbase)
 unfold OwnE
 rw [dcells_app, List.length_append]
 exact h2

/-- A number of the document, by its value. -/
def NumV (w : World) (v : Value) (z : Int) : Prop :=
 ∃ a cap, v = .agg #[.bool (decide (z < 0)), .slice a (dg 10 z.natAbs).length cap] ∧ Fit a (dg 10 z.natAbs).length cap ∧ Dg .i64 w a (dg 10 z.natAbs)
/-- How many decimal digits a number has. -/
def dlen (z : Int) : Nat := (dg 10 z.natAbs).length
theorem T2 : 2 ≤ 10 := by decide
theorem NumV.below {w w' : World} {B : Nat} {v : Value} {z : Int} (h : NumV w v z) (hb : Below B w w') (hB : w.heap.size ≤ B) : NumV w' v z := by
 obtain ⟨a, cap, e, hc, hd⟩ := h
 exact ⟨a, cap, e, hc, hd.below hb hB⟩
theorem NumV.drewN {w : World} {v : Value} {z : Int} (h : NumV w v z) (n : Nat) : NumV (w.drewN n) v z := h
theorem NumV.zero (w : World) : NumV w (.agg #[.bool false, .slice none 0 0]) 0 := ⟨none, 0, rfl, ⟨Nat.zero_le _, fun _ => rfl⟩, Dg.nil _ _⟩
theorem NumV.parts {w : World} {v : Value} {z : Int} (h : NumV w v z) : ∃ (n : Bool) (a : Option Addr) (l k : Nat), v = .agg #[.bool n, .slice a l k] := by
 obtain ⟨a, cap, e, _, _⟩ := h
 exact ⟨_, _, _, _, e⟩
theorem Dg.trim {k : IntKind} {w : World} {a : Option Addr} {ds : List Nat} (h : Dg k w a ds) : Dg k w a (trim ds) := by
 obtain ⟨m, _, e⟩ := (trim_facts 10 _ ds rfl).2.2
 rw [e]
 exact h.take m
theorem Fit.trim {a : Option Addr} {cap : Nat} {ds : List Nat} (h : Fit a ds.length cap) : Fit a (trim ds).length cap := ⟨Nat.le_trans (trim_len ds) h.1, h.2⟩

end Go.Proofs.Ytphjffbldhhdiaa

namespace Go.Proofs.Ytphjffbldhhdiaa
open Go.RowKit

theorem tval_take_succ {ds : List Nat} {j : Nat} (hj : j < ds.length) : val 10 (ds.take (j + 1)) = val 10 (ds.take j) + 10 ^ j * ds[j] := by
 rw [List.take_succ_eq_append_getElem hj, val_snoc, List.length_take, Nat.min_eq_left (by omega)]
/-- One step of a sum by hand, to any base. -/
theorem sum_stepb {b A B V c d e P q r : Nat} (h : A + B = V + P * c) (hq : c + d + e = b * q + r) : (A + P * d) + (B + P * e) = (V + P * r) + (P * b) * q := by
 have h1 : P * (c + d + e) = P * (b * q + r) := by rw [hq]
 rw [Nat.mul_add, Nat.mul_add, Nat.mul_add, ← Nat.mul_assoc] at h1
 omega
structure AddSt (w : World) (base : Nat) (x y : List Nat) (j : Nat) (v : Value) (ds : List Nat) (c : Nat) (wr : World) : Prop where
 own : OwnE wr base v ds
 len : ds.length = j
 digs : Digs 10 ds
 sum : val 10 (x.take j) + val 10 (y.take j) = val 10 ds + 10 ^ j * c
 car : c ≤ 1
 bel : Below base w wr
 le : base ≤ wr.heap.size
theorem AddSt.next {w wr w' : World} {base j c : Nat} {x y ds : List Nat} {v v' : Value} (s : AddSt w base x y j v ds c wr) (d e q r : Nat) (hd : val 10 (x.take (j + 1)) = val 10 (x.take j) + 10 ^ j * d) (he : val 10 (y.take (j + 1)) = val 10 (y.take j) + 10 ^ j * e) (hq : c + d + e = 10 * q + r) (hr : r < 10) (hq1 : q ≤ 1)
  (ho : OwnE w' base v' (ds ++ [r])) (hb : Below base wr w') : AddSt w base x y (j + 1) v' (ds ++ [r]) q w' := by
 refine ⟨ho, by simp [s.len], s.digs.snoc hr, ?_, hq1, s.bel.trans hb, Nat.le_trans s.le hb.size⟩
 rw [hd, he, val_snoc, s.len, Nat.pow_succ]
 exact sum_stepb s.sum hq

structure SubSt (w : World) (base : Nat) (x y : List Nat) (j : Nat) (v : Value) (ds : List Nat) (c : Nat) (wr : World) : Prop where
 own : OwnE wr base v ds
 len : ds.length = j
 digs : Digs 10 ds
 sum : val 10 (x.take j) + 10 ^ j * c = val 10 ds + val 10 (y.take j)
 car : c ≤ 1
 bel : Below base w wr
 le : base ≤ wr.heap.size
theorem diff_stepb {b A B V c d e P q r : Nat} (h : A + P * c = V + B) (hq : d + b * q = r + c + e) : (A + P * d) + (P * b) * q = (V + P * r) + (B + P * e) := by
 have h1 : P * (d + b * q) = P * (r + c + e) := by rw [hq]
 rw [Nat.mul_add, Nat.mul_add, Nat.mul_add, ← Nat.mul_assoc] at h1
 omega
theorem SubSt.next {w wr w' : World} {base j c : Nat} {x y ds : List Nat} {v v' : Value} (s : SubSt w base x y j v ds c wr) (d e q r : Nat) (hd : val 10 (x.take (j + 1)) = val 10 (x.take j) + 10 ^ j * d) (he : val 10 (y.take (j + 1)) = val 10 (y.take j) + 10 ^ j * e) (hq : d + 10 * q = r + c + e) (hr : r < 10) (hq1 : q ≤ 1)
  (ho : OwnE w' base v' (ds ++ [r])) (hb : Below base wr w') : SubSt w base x y (j + 1) v' (ds ++ [r]) q w' := by
 refine ⟨ho, by simp [s.len], s.digs.snoc hr, ?_, hq1, s.bel.trans hb, Nat.le_trans s.le hb.size⟩
 rw [hd, he, val_snoc, s.len, Nat.pow_succ]
 exact diff_stepb s.sum hq
end Go.Proofs.Ytphjffbldhhdiaa

namespace Go.Proofs.Ytphjffbldhhdiaa
open Go.RowKit

theorem Dg.storeT {t : TypeId} {k : IntKind} {w : World} {a : Option Addr} {ds : List Nat} {g l m : Nat} {n : Bool} {b : Option Addr} (h : Dg k w a ds) (hB : Blk w g t #[.bool n, .slice b l m]) (x y : Value) : Dg k ((w.setCell ⟨g, 0, none⟩ x).setCell ⟨g, 1, none⟩ y) a ds := by
 intro hn
 obtain ⟨p, off, e, hc⟩ := h hn
 refine ⟨p, off, e, fun i hi => ?_⟩
 have h0 : (⟨g, 0, none⟩ : Addr) ≠ ⟨p, off + i, none⟩ := fun e => by
  have := hc i hi
  rw [← e, hB.cell 0] at this
  cases this
 have h1 : (⟨g, 1, none⟩ : Addr) ≠ ⟨p, off + i, none⟩ := fun e => by
  have := hc i hi
  rw [← e, hB.cell 1] at this
  cases this
 rw [World.cell?_setCell_other _ _ _ _ h1, World.cell?_setCell_other _ _ _ _ h0]
 exact hc i hi
theorem NumV.store {t : TypeId} {w : World} {v : Value} {z : Int} {g l m : Nat} {n : Bool} {b : Option Addr} (h : NumV w v z) (hB : Blk w g t #[.bool n, .slice b l m]) (x y : Value) : NumV ((w.setCell ⟨g, 0, none⟩ x).setCell ⟨g, 1, none⟩ y) v z := by
 obtain ⟨a, cap, e, hc, hd⟩ := h
 exact ⟨a, cap, e, hc, hd.storeT hB x y⟩
theorem BB_pow (i : Nat) : BB ^ i = 10 ^ (9 * i) := by rw [show BB = 10 ^ 9 from rfl, ← Nat.pow_mul]
/-- What is told of the digits ahead of i, and k decimal digits of the next one. -/
structure ROfSt (w : World) (base : Nat) (X : List Nat) (i k : Nat) (v : Value) (ds : List Nat) (n : Nat) (wr : World) : Prop where
 own : OwnE wr base v ds
 len : ds.length = 9 * i + k
 digs : Digs 10 ds
 sum : val 10 ds + 10 ^ (9 * i + k) * n = val BB (X.take (i + 1))
 nb : n < 10 ^ (9 - k)
 bel : Below base w wr
 le : base ≤ wr.heap.size
theorem ROfSt.next {w wr w' : World} {base i k n : Nat} {X ds : List Nat} {v v' : Value} (s : ROfSt w base X i k v ds n wr) (hk : k < 9) (q r : Nat) (hq : n = 10 * q + r) (hr : r < 10)
  (ho : OwnE w' base v' (ds ++ [r])) (hb : Below base wr w') : ROfSt w base X i (k + 1) v' (ds ++ [r]) q w' := by
 refine ⟨ho, by simp [s.len]; omega, s.digs.snoc hr, ?_, ?_, s.bel.trans hb, Nat.le_trans s.le hb.size⟩
 ·rw [← s.sum, val_snoc, s.len, hq, ← Nat.add_assoc, Nat.pow_succ, Nat.mul_add, Nat.mul_assoc]
  omega
 ·have h := s.nb
  rw [show 9 - k = (9 - (k + 1)) + 1 by omega, Nat.pow_succ] at h
  omega
/-- What is told of the digits ahead of i. -/
structure ROfOut (w : World) (base : Nat) (X : List Nat) (i : Nat) (v : Value) (ds : List Nat) (wr : World) : Prop where
 own : OwnE wr base v ds
 len : ds.length = 9 * i
 digs : Digs 10 ds
 sum : val 10 ds = val BB (X.take i)
 bel : Below base w wr
 le : base ≤ wr.heap.size
theorem ROfSt.out {w wr : World} {base i n : Nat} {X ds : List Nat} {v : Value} (s : ROfSt w base X i 9 v ds n wr) : ROfOut w base X (i + 1) v ds wr := by
 have h0 : n = 0 := by have := s.nb; simpa using this
 exact ⟨s.own, by rw [s.len]; omega, s.digs, by rw [← s.sum, h0]; rfl, s.bel, s.le⟩

end Go.Proofs.Ytphjffbldhhdiaa

namespace Go.Proofs.Ytphjffbldhhdiaa
open Go.RowKit

def isB (v : Value) : Prop := ∃ n, v = .bool n
def isS (v : Value) : Prop := ∃ a l k, v = .slice a l k
theorem isB_of (n : Bool) : isB (.bool n) := ⟨_, rfl⟩
theorem isS_of (a : Option Addr) (l k : Nat) : isS (.slice a l k) := ⟨_, _, _, rfl⟩
/-- The result's block is there; what was there before is as it was. -/
structure Kp (w : World) (t : TypeId) (g : Nat) (c : World) : Prop where
 bel : Below w.heap.size w c
 le : w.heap.size ≤ g
 blk : ∃ (n : Bool) (a : Option Addr) (l k : Nat), Blk c g t #[.bool n, .slice a l k]
section
variable {w c w1 : World} {t : TypeId} {g : Nat}
theorem Kp.below (h : Kp w t g c) (hb : Below c.heap.size c w1) : Kp w t g w1 := by
 obtain ⟨h1, h2, n, a, l, k, h3⟩ := h
 exact ⟨h1.trans (hb.mono h1.size), h2, n, a, l, k, h3.below hb h3.lt⟩
theorem Kp.drew (h : Kp w t g c) : Kp w t g c.drew := ⟨h.1.drew, h.2, h.3⟩
theorem Kp.drewN (h : Kp w t g c) (n : Nat) : Kp w t g (c.drewN n) := ⟨below_drewN h.1 n, h.2, h.3⟩
theorem Kp.put {p q : Value} (hp : isB p) (hq : isS q) (h : Kp w t g c) : Kp w t g ((c.setCell ⟨g, 0, none⟩ p).setCell ⟨g, 1, none⟩ q) := by
 obtain ⟨h1, h2, n, a, l, k, h3⟩ := h
 obtain ⟨n', rfl⟩ := hp
 obtain ⟨a', l', k', rfl⟩ := hq
 exact ⟨(h1.setCell h2 _).setCell h2 _, h2, n', a', l', k', h3.two _ _⟩
/-- What a store into the result's block asks and leaves. -/
theorem Kp.at (h : Kp w t g c) (hb : Below c.heap.size c w1) : ∃ (n : Bool) (a : Option Addr) (l k : Nat), w1.cell? ⟨g, 0, none⟩ = some (.bool n) ∧ w1.cell? ⟨g, 1, none⟩ = some (.slice a l k) ∧ w1.frozen? ⟨g, 0, none⟩ = false ∧ w1.frozen? ⟨g, 1, none⟩ = false ∧ Blk w1 g t #[.bool n, .slice a l k] := by
 obtain ⟨h1, h2, n, a, l, m, k⟩ := h
 have k' := k.below hb k.lt
 obtain ⟨c0, c1, hf⟩ := k'.c2
 exact ⟨n, a, l, m, c0, c1, hf 0, hf 1, k'⟩
theorem cellK {a : Addr} {v : Value} (hb : Below c.heap.size c w1) (h : c.cell? a = some v) : w1.cell? a = some v := (hb.cell (World.block_lt_of_cell? c _ h)).trans h
theorem cellF {a : Addr} {p q v : Value} (hne : a.block ≠ g) (h : c.cell? a = some v) : ((c.setCell ⟨g, 0, none⟩ p).setCell ⟨g, 1, none⟩ q).cell? a = some v := by
 rw [World.cell?_setCell_other _ _ _ _ (fun e => hne (congrArg Addr.block e.symm)), World.cell?_setCell_other _ _ _ _ (fun e => hne (congrArg Addr.block e.symm))]
 exact h
end
theorem keepK2 {w c w1 : World} {t : TypeId} {g : Nat} {g0 o0 g1 o1 : Nat} {v0 v1 : Value} (h : c.cell? ⟨g0, o0, none⟩ = some v0 ∧ c.cell? ⟨g1, o1, none⟩ = some v1 ∧ Kp w t g c) (hb : Below c.heap.size c w1) : w1.cell? ⟨g0, o0, none⟩ = some v0 ∧ w1.cell? ⟨g1, o1, none⟩ = some v1 ∧ Kp w t g w1 := by
 obtain ⟨h0, h1, hk⟩ := h
 exact ⟨cellK hb h0, cellK hb h1, hk.below hb⟩
theorem keepP2 {w c : World} {t : TypeId} {g : Nat} {g0 o0 g1 o1 : Nat} {v0 v1 : Value} (d0 : g0 ≠ g) (d1 : g1 ≠ g) (p q : Value) (hp : isB p) (hq : isS q) (h : c.cell? ⟨g0, o0, none⟩ = some v0 ∧ c.cell? ⟨g1, o1, none⟩ = some v1 ∧ Kp w t g c) : ((c.setCell ⟨g, 0, none⟩ p).setCell ⟨g, 1, none⟩ q).cell? ⟨g0, o0, none⟩ = some v0 ∧ ((c.setCell ⟨g, 0, none⟩ p).setCell ⟨g, 1, none⟩ q).cell? ⟨g1, o1, none⟩ = some v1 ∧ Kp w t g ((c.setCell ⟨g, 0, none⟩ p).setCell ⟨g, 1, none⟩ q) := by
 obtain ⟨h0, h1, hk⟩ := h
 exact ⟨cellF (a := ⟨g0, o0, none⟩) d0 h0, cellF (a := ⟨g1, o1, none⟩) d1 h1, hk.put hp hq⟩
theorem keepK4 {w c w1 : World} {t : TypeId} {g : Nat} {g0 o0 g1 o1 g2 o2 g3 o3 : Nat} {v0 v1 v2 v3 : Value} (h : c.cell? ⟨g0, o0, none⟩ = some v0 ∧ c.cell? ⟨g1, o1, none⟩ = some v1 ∧ c.cell? ⟨g2, o2, none⟩ = some v2 ∧ c.cell? ⟨g3, o3, none⟩ = some v3 ∧ Kp w t g c) (hb : Below c.heap.size c w1) : w1.cell? ⟨g0, o0, none⟩ = some v0 ∧ w1.cell? ⟨g1, o1, none⟩ = some v1 ∧ w1.cell? ⟨g2, o2, none⟩ = some v2 ∧ w1.cell? ⟨g3, o3, none⟩ = some v3 ∧ Kp w t g w1 := by
 obtain ⟨h0, h1, h2, h3, hk⟩ := h
 exact ⟨cellK hb h0, cellK hb h1, cellK hb h2, cellK hb h3, hk.below hb⟩
end Go.Proofs.Ytphjffbldhhdiaa

namespace Go.Proofs.Ytphjffbldhhdiaa
open Go.RowKit

theorem val_nine (X : List Nat) (i : Nat) (hi : i ≤ X.length) : val 10 (X.take (i + 9)) = val 10 (X.take i) + 10 ^ i * val 10 ((X.drop i).take 9) := by
 rw [List.take_add, val_append, List.length_take, Nat.min_eq_left hi]
theorem canon_big {b : Nat} {X : List Nat} (h : Canon b X) (hne : X ≠ []) : b ^ (X.length - 1) ≤ val b X := by
 rcases snoc_cases X with rfl | ⟨r, d, rfl⟩
 ·exact absurd rfl hne
 ·have hd : d ≠ 0 := fun e => h.2 (by simp [e])
  rw [val_snoc, List.length_append, List.length_singleton, Nat.add_sub_cancel]
  have : b ^ r.length * 1 ≤ b ^ r.length * d := Nat.mul_le_mul_left _ (by omega)
  omega
theorem canon_of_big {b : Nat} {X : List Nat} (h : Digs b X) (hb : X ≠ [] → b ^ (X.length - 1) ≤ val b X) : Canon b X := by
 refine ⟨h, fun e => ?_⟩
 rcases snoc_cases X with rfl | ⟨r, d, rfl⟩
 ·simp at e
 ·obtain rfl : d = 0 := by simpa using e
  have h1 := hb (by simp)
  rw [val_snoc, List.length_append, List.length_singleton, Nat.add_sub_cancel, Nat.mul_zero] at h1
  have h2 := val_lt (ds := r) (b := b) (fun x hx => h x (by simp [hx]))
  omega
theorem OwnD.set_low {w : World} {base g i : Nat} {v : Value} {ds : List Nat} (h : OwnD w base v ds) (hg : g < base) (u : Value) : OwnD (w.setCell ⟨g, i, none⟩ u) base v ds := by
 refine h.kept (row := some g) (only_setCell (only_refl _ _) (.inl rfl) u) ?_
 right
 intro e
 have := (World.ownsRow.lt h g e).1
 omega

/-- What is told of the decimal digits ahead of I. -/
structure FoSt (w : World) (B : Nat) (neg : Bool) (X : List Nat) (I : Nat) (va : Option Addr) (vc : Nat) (ds : List Nat) (wr : World) : Prop where
 own : OwnD wr (B + 3) (.slice va ds.length vc) ds
 blk : Blk wr (B + 1 + 1) 38 #[.bool neg, .slice va ds.length vc]
 len : I = 9 * ds.length
 lim : I < X.length + 9
 digs : Digs BB ds
 sum : val BB ds = val 10 (X.take I)
 bel : Below (B + 1 + 1) w wr
 le : B + 3 ≤ wr.heap.size
theorem FoSt.next {w wr w2 w' : World} {B I n vc vc' : Nat} {neg : Bool} {X ds : List Nat} {va va' : Option Addr} (s : FoSt w B neg X I va vc ds wr) (hI : I < X.length) (hn : n = val 10 ((X.drop I).take 9)) (hX : Digs 10 X) (ho : OwnD w2 (B + 3) (.slice va' (ds ++ [n]).length vc') (ds ++ [n])) (hb : Below (B + 3) wr w2) (hw : w2.setCell ⟨B + 1 + 1, 1, none⟩ (.slice va' (ds.length + 1) vc') = w') :
  FoSt w B neg X (I + 9) va' vc' (ds ++ [n]) w' := by
 subst hw
 have hlt : n < BB := by
  rw [hn]
  have h := val_lt ((hX.drop I).take 9)
  exact Nat.lt_of_lt_of_le h (show 10 ^ _ ≤ 10 ^ 9 from Nat.pow_le_pow_right (by decide) (by simp; omega))
 have hl : (ds ++ [n]).length = ds.length + 1 := by simp
 refine ⟨ho.set_low (by omega) _, ?_, by rw [hl, s.len]; omega, by omega, s.digs.snoc hlt, ?_, (s.bel.trans (hb.mono (by omega))).setCell (Nat.le_refl _) _, ?_⟩
 ·rw [hl]
  have h := (s.blk.below hb (by omega)).set_ 1 (.slice va' (ds.length + 1) vc')
  simpa using h
 ·rw [val_snoc, s.sum, val_nine X I (by omega), BB_pow, ← s.len, hn]
 ·rw [World.size_setCell]; exact Nat.le_trans s.le hb.size
theorem FoSt.done {w wr : World} {B I vc : Nat} {neg : Bool} {X ds : List Nat} {va : Option Addr} {z : Int} (s : FoSt w B neg X I va vc ds wr) (hI : X.length ≤ I) (hX : X = dg 10 z.natAbs) (hneg : neg = decide (z < 0)) : IntV wr (.agg #[.bool neg, .slice va ds.length vc]) z := by
 have hv : val BB ds = z.natAbs := by rw [s.sum, List.take_of_length_le hI, hX, dg_val T2]
 have hc : Canon BB ds := by
  refine canon_of_big s.digs fun hne => ?_
  have h1 := s.len
  have h2 := s.lim
  have h0 : 0 < ds.length := List.length_pos_iff.2 hne
  have h3 := canon_big (dg_canon T2 z.natAbs) (by rw [← hX]; intro e; rw [e] at h2; simp at h2; omega)
  rw [dg_val T2, ← hX] at h3
  rw [hv, BB_pow]
  exact Nat.le_trans (Nat.pow_le_pow_right (by decide) (by omega)) h3
 obtain ⟨hd, hf⟩ := own_dg s.own
 have e := dg_of BB2 hc hv
 subst hneg
 exact ⟨va, vc, by rw [e], by rw [e]; exact hf, by rw [e]; exact hd⟩

end Go.Proofs.Ytphjffbldhhdiaa

namespace Go.Proofs.Ytphjffbldhhdiaa
open Go.RowKit

/-- A number of the document that a slice can hold. -/
def Dm (z : Int) : Prop := dlen z ≤ 100000000000

section
variable {w c : World} {a b : Option Addr} {ca cb : Nat} {x y : List Nat}
end
end Go.Proofs.Ytphjffbldhhdiaa

namespace Go.Proofs.Ytphjffbldhhdiaa
open Go.RowKit

/-- So many rows of a decimal product are in. -/
structure TRow (x y : List Nat) (i : Nat) (out : List Nat) : Prop where
 len : out.length = x.length + y.length + 1
 digs : Digs 10 out
 val_ : val 10 out = val 10 (x.take i) * val 10 y
 zero : ∀ k, i + y.length ≤ k → k < out.length → out[k]? = some 0
/-- Within a row: so many places are in; what is carried. -/
structure SRow (y : List Nat) (i : Nat) (a : Nat) (o0 : List Nat) (j : Nat) (out : List Nat) (c : Nat) : Prop where
 len : out.length = o0.length
 digs : Digs 10 out
 car : c < 10
 val_ : val 10 out + 10 ^ (i + j) * c = val 10 o0 + 10 ^ i * (a * val 10 (y.take j))
 rest : ∀ k, i + j ≤ k → out[k]? = o0[k]?
theorem TRow.start (x y : List Nat) : TRow x y 0 (List.replicate (x.length + y.length + 1) 0) := by
 refine ⟨by simp, ?_, by simp [val, val_zeros], fun k _ hk => by simp at hk; simp [hk]⟩
 intro d hd
 have := List.eq_of_mem_replicate hd
 omega
theorem SRow.start {y : List Nat} {i a : Nat} {o0 : List Nat} (h : Digs 10 o0) : SRow y i a o0 0 o0 0 :=
 ⟨rfl, h, by omega, by simp [val], fun _ _ => rfl⟩
theorem SRow.next {y : List Nat} {i a j c q r e : Nat} {o0 out : List Nat} (h : SRow y i a o0 j out c) (he : val 10 (y.take (j + 1)) = val 10 (y.take j) + 10 ^ j * e) (ho : i + j < out.length) (hq : c + out[i + j] + a * e = 10 * q + r) (hr : r < 10) (hq1 : q < 10) :
  SRow y i a o0 (j + 1) (out.set (i + j) r) q := by
 refine ⟨by simp [h.len], h.digs.set hr, hq1, ?_, ?_⟩
 ·have hs := val_set (b := 10) out (i + j) r ho
  have hv := h.val_
  rw [he]
  have e1 : 10 ^ i * (a * (val 10 (y.take j) + 10 ^ j * e)) = 10 ^ i * (a * val 10 (y.take j)) + 10 ^ (i + j) * (a * e) := by
   rw [Nat.mul_add, Nat.mul_add, Nat.pow_add, Nat.mul_assoc]
   congr 1
   rw [← Nat.mul_assoc a, Nat.mul_comm a, Nat.mul_assoc]
  have e2 : 10 ^ (i + j) * (c + out[i + j] + a * e) = 10 ^ (i + (j + 1)) * q + 10 ^ (i + j) * r := by
   rw [hq, Nat.mul_add, ← Nat.add_assoc i j 1, Nat.pow_succ, Nat.mul_assoc]
  rw [Nat.mul_add, Nat.mul_add] at e2
  rw [e1]
  omega
 ·intro k hk
  rw [List.getElem?_set_ne (by omega)]
  exact h.rest k (by omega)
theorem TRow.next {x y : List Nat} {i j : Nat} {o0 out : List Nat} (h : TRow x y i o0) (hi : i < x.length) (hI : SRow y i x[i] o0 j out 0) (hj : y.length ≤ j) (hj2 : j ≤ y.length + 1) : TRow x y (i + 1) out := by
 refine ⟨by rw [hI.len, h.len], hI.digs, ?_, ?_⟩
 ·have hv := hI.val_
  rw [Nat.mul_zero, Nat.add_zero, List.take_of_length_le hj] at hv
  rw [tval_take_succ hi, Nat.add_mul, Nat.mul_assoc, ← h.val_]
  exact hv
 ·intro k hk hkl
  rw [hI.rest k (by omega)]
  exact h.zero k (by omega) (by rw [← hI.len]; exact hkl)

/-- Two numbers in boxes, the result's block, a row of digits. -/
structure MuSt (w : World) (nx : Bool) (vx : Value) (ny : Bool) (vy : Value) (G : Nat) (out : List Nat) (c : World) : Prop where
 bx : Blk c w.heap.size 41 #[.bool nx, vx]
 by_ : Blk c (w.heap.size + 1) 41 #[.bool ny, vy]
 bz : Blk c (w.heap.size + 1 + 1) 41 #[.bool false, .slice none 0 0]
 row : DRow .i64 3 c G out
 bel : Below w.heap.size w c
theorem MuSt.set {w c : World} {nx ny : Bool} {vx vy : Value} {G : Nat} {out : List Nat} (h : MuSt w nx vx ny vy G out c) (hG : w.heap.size + 3 ≤ G) (i d : Nat) : MuSt w nx vx ny vy G (out.set i d) (c.setCell ⟨G, i, none⟩ (.int .i64 (d : Int))) :=
 ⟨h.bx.far (by simp; omega) _, h.by_.far (by simp; omega) _, h.bz.far (by simp; omega) _, h.row.set i d, h.bel.setCell (by simp; omega) _⟩
theorem MuSt.drewN {w c : World} {nx ny : Bool} {vx vy : Value} {G : Nat} {out : List Nat} (h : MuSt w nx vx ny vy G out c) (n : Nat) : MuSt w nx vx ny vy G out (c.drewN n) := ⟨h.bx, h.by_, h.bz, h.row, below_drewN h.bel n⟩

end Go.Proofs.Ytphjffbldhhdiaa

namespace Go.Proofs.Ytphjffbldhhdiaa
open Go.RowKit

/-- So far the quotient's digits from k on, and what is left. -/
structure DvSt (X : List Nat) (Y k : Nat) (Q : List Nat) (p : Nat) : Prop where
 len : Q.length = X.length
 digs : Digs 10 Q
 lo : ∀ j, j < k → j < Q.length → Q[j]? = some 0
 val_ : val 10 (X.drop k) = val 10 (Q.drop k) * Y + p
 lt : p < Y
theorem DvSt.start (X : List Nat) {Y : Nat} (hY : 0 < Y) : DvSt X Y X.length (List.replicate X.length 0) 0 := by
 refine ⟨by simp, ?_, fun j hj hl => by simp at hl; simp [hl], by simp [val], hY⟩
 intro d hd
 have := List.eq_of_mem_replicate hd
 omega
theorem DvSt.next {X : List Nat} {Y k : Nat} {Q : List Nat} {p t g : Nat} (h : DvSt X Y (k + 1) Q p) (hk : k < X.length) (he : X[k] + 10 * p = t * Y + g) (hg : g < Y) (hX : X[k] < 10) : DvSt X Y k (Q.set k t) g := by
 have hl := h.len
 have ht : t < 10 := by
  rcases Nat.lt_or_ge t 10 with h1 | h1
  ·exact h1
  ·have h2 : 10 * Y ≤ t * Y := Nat.mul_le_mul_right _ h1
   have h3 := h.lt
   omega
 refine ⟨by simp [hl], h.digs.set ht, ?_, ?_, hg⟩
 ·intro j hj hjl
  rw [List.getElem?_set_ne (by omega)]
  exact h.lo j (by omega) (by simpa using hjl)
 ·have e1 : val 10 (X.drop k) = X[k] + 10 * val 10 (X.drop (k + 1)) := by rw [List.drop_eq_getElem_cons hk]; rfl
  have e2 : (Q.set k t).drop k = t :: Q.drop (k + 1) := by
   rw [List.drop_eq_getElem_cons (show k < (Q.set k t).length by simp; omega)]
   congr 1
   ·simp
   ·rw [List.drop_set_of_lt (by omega)]
  rw [e1, h.val_, e2]
  show _ = (t + 10 * val 10 (Q.drop (k + 1))) * Y + g
  rw [Nat.add_mul, Nat.mul_add, Nat.mul_assoc]
  omega
theorem DvSt.done {X : List Nat} {Y : Nat} {Q : List Nat} {p : Nat} (h : DvSt X Y 0 Q p) : val 10 Q = val 10 X / Y ∧ p = val 10 X % Y := by
 have hv := h.val_
 have hlt := h.lt
 rw [List.drop_zero, List.drop_zero] at hv
 rw [hv, Nat.mul_comm]
 refine ⟨?_, ?_⟩
 ·rw [Nat.mul_add_div (by omega), Nat.div_eq_of_lt hlt, Nat.add_zero]
 ·rw [Nat.mul_add_mod, Nat.mod_eq_of_lt hlt]

/-- The boxes, the quotient's row, what is left. -/
structure DvW (w : World) (nx : Bool) (vx : Value) (ny : Bool) (vy : Value) (G : Nat) (Q : List Nat) (ra : Option Addr) (rc p : Nat) (c : World) : Prop where
 bx : Blk c w.heap.size 41 #[.bool nx, vx]
 by_ : Blk c (w.heap.size + 1) 41 #[.bool ny, vy]
 bz : Blk c (w.heap.size + 1 + 1) 41 #[.bool false, .slice none 0 0]
 bv : Blk c (w.heap.size + 1 + 1 + 1) 41 #[.bool false, .slice none 0 0]
 row : DRow .i64 3 c G Q
 rd : Dg .i64 c ra (dg 10 p)
 rf : Fit ra (dg 10 p).length rc
 rn : ∀ ad, ra = some ad → G < ad.block
 bel : Below w.heap.size w c
section
variable {w c c' : World} {nx ny : Bool} {vx vy : Value} {G : Nat} {Q : List Nat} {ra ra' : Option Addr} {rc rc' p p' : Nat}
theorem DvW.grow (h : DvW w nx vx ny vy G Q ra rc p c) (hb : Below c.heap.size c c') (rd : Dg .i64 c' ra' (dg 10 p')) (rf : Fit ra' (dg 10 p').length rc') (rn : ∀ ad, ra' = some ad → c.heap.size ≤ ad.block) : DvW w nx vx ny vy G Q ra' rc' p' c' :=
 ⟨h.bx.below hb h.bx.lt, h.by_.below hb h.by_.lt, h.bz.below hb h.bz.lt, h.bv.below hb h.bv.lt, h.row.below hb h.row.lt, rd, rf, fun ad e => Nat.lt_of_lt_of_le h.row.lt (rn ad e), h.bel.trans (hb.mono h.bel.size)⟩
theorem DvW.drewN (h : DvW w nx vx ny vy G Q ra rc p c) (n : Nat) : DvW w nx vx ny vy G Q ra rc p (c.drewN n) := ⟨h.bx, h.by_, h.bz, h.bv, h.row, h.rd, h.rf, h.rn, below_drewN h.bel n⟩
theorem DvW.set (h : DvW w nx vx ny vy G Q ra rc p c) (hG : w.heap.size + 4 ≤ G) (i d : Nat) : DvW w nx vx ny vy G (Q.set i d) ra rc p (c.setCell ⟨G, i, none⟩ (.int .i64 (d : Int))) := by
 refine ⟨h.bx.far (by simp; omega) _, h.by_.far (by simp; omega) _, h.bz.far (by simp; omega) _, h.bv.far (by simp; omega) _, h.row.set i d, ?_, h.rf, h.rn, h.bel.setCell (by simp; omega) _⟩
 intro hn
 obtain ⟨b, off, e, hc⟩ := h.rd hn
 refine ⟨b, off, e, fun j hj => ?_⟩
 have hlt : G < b := h.rn _ e
 rw [World.cell?_setCell_other _ _ _ _ (fun e => by have := congrArg Addr.block e; simp at this; omega)]
 exact hc j hj
end
/-- The boxes, the results' blocks, the two numbers. -/
structure DvE (w : World) (nx : Bool) (vx : Value) (ny : Bool) (vy : Value) (g9 g10 : Nat) (a0 a1 b0 b1 : Value) (c : World) : Prop where
 bx : Blk c w.heap.size 41 #[.bool nx, vx]
 by_ : Blk c (w.heap.size + 1) 41 #[.bool ny, vy]
 bz : Blk c (w.heap.size + 1 + 1) 41 #[.bool false, .slice none 0 0]
 bv : Blk c (w.heap.size + 1 + 1 + 1) 41 #[.bool false, .slice none 0 0]
 b9 : Blk c g9 41 #[a0, a1]
 b10 : Blk c g10 41 #[b0, b1]
 bel : Below w.heap.size w c
section
variable {w c c' : World} {nx ny : Bool} {vx vy a0 a1 b0 b1 : Value} {g9 g10 : Nat}
theorem DvE.drew (h : DvE w nx vx ny vy g9 g10 a0 a1 b0 b1 c) : DvE w nx vx ny vy g9 g10 a0 a1 b0 b1 c.drew := ⟨h.bx, h.by_, h.bz, h.bv, h.b9, h.b10, h.bel.drew⟩
end
end Go.Proofs.Ytphjffbldhhdiaa

namespace Go.Proofs.Ytphjffbldhhdiaa
open Go.RowKit

/-- Two numbers in boxes, the result's block. -/
structure GcW (w : World) (n1 : Bool) (a1 : Option Addr) (l1 k1 : Nat) (n2 : Bool) (a2 : Option Addr) (l2 k2 : Nat) (A B : Nat) (c : World) : Prop where
 bx : Blk c w.heap.size 41 #[.bool n1, .slice a1 l1 k1]
 by_ : Blk c (w.heap.size + 1) 41 #[.bool n2, .slice a2 l2 k2]
 bz : Blk c (w.heap.size + 1 + 1) 41 #[.bool false, .slice none 0 0]
 vx : NumV c (.agg #[.bool n1, .slice a1 l1 k1]) (A : Int)
 vy : NumV c (.agg #[.bool n2, .slice a2 l2 k2]) (B : Int)
 bel : Below w.heap.size w c
section
variable {w c c' : World} {n1 n2 n3 : Bool} {a1 a2 a3 : Option Addr} {l1 l2 l3 k1 k2 k3 A B C : Nat}
theorem GcW.drew (h : GcW w n1 a1 l1 k1 n2 a2 l2 k2 A B c) : GcW w n1 a1 l1 k1 n2 a2 l2 k2 A B c.drew := ⟨h.bx, h.by_, h.bz, h.vx, h.vy, h.bel.drew⟩
end

end Go.Proofs.Ytphjffbldhhdiaa

namespace Go.Proofs.Ytphjffbldhhdiaa
open Go.RowKit

/-- A slice of bytes that is the call's own. -/
def OwnY (w : World) (base : Nat) (v : Value) (l : List UInt8) : Prop := w.ownsRow base 5 1 v l.length (Lib.byteCells l)
theorem OwnY.alloc {w : World} {base : Nat} {v : Value} {ds : List UInt8} (h : OwnY w base v ds) (o : Obj) : OwnY (w.alloc o) base v ds := World.ownsRow.alloc h o
end Go.Proofs.Ytphjffbldhhdiaa

namespace Go.Proofs.Ytphjffbldhhdiaa
open Go.RowKit

end Go.Proofs.Ytphjffbldhhdiaa

namespace Go.Proofs.Ytphjffbldhhdiaa
open Go.RowKit

theorem len_add (x y : Int) : len (x + y) ≤ max (len x) (len y) + 1 := by
 unfold len
 exact Nat.le_trans (dg_len_mono BB2 (show (x + y).natAbs ≤ x.natAbs + y.natAbs by omega)) (dg_len_add BB2 _ _)
theorem len_mul (x y : Int) : len (x * y) ≤ len x + len y := by
 unfold len
 rw [Int.natAbs_mul]
 exact dg_len_mul BB2 _ _
theorem boxes2 {c w5 : World} {t : TypeId} (h5 : (c.alloc (.cells #[.bool false, .slice none 0 0] t)).alloc (.cells #[.bool false, .slice none 0 0] t) = w5) (q0 q1 r0 r1 : Value) :
  (w5.cell? ⟨c.heap.size, 0, none⟩ = some (.bool false) ∧ w5.cell? ⟨c.heap.size, 1, none⟩ = some (.slice none 0 0) ∧ w5.cell? ⟨c.heap.size + 1, 0, none⟩ = some (.bool false) ∧ w5.cell? ⟨c.heap.size + 1, 1, none⟩ = some (.slice none 0 0) ∧ (∀ i, w5.frozen? ⟨c.heap.size, i, none⟩ = false) ∧ ∀ i, w5.frozen? ⟨c.heap.size + 1, i, none⟩ = false) ∧
  ∃ W, (((w5.setCell ⟨c.heap.size, 0, none⟩ q0).setCell ⟨c.heap.size, 1, none⟩ q1).setCell ⟨c.heap.size + 1, 0, none⟩ r0).setCell ⟨c.heap.size + 1, 1, none⟩ r1 = W ∧ Blk W c.heap.size t #[q0, q1] ∧ Blk W (c.heap.size + 1) t #[r0, r1] ∧ Below c.heap.size c W := by
 have hA : Blk w5 c.heap.size t #[.bool false, .slice none 0 0] := by rw [← h5]; exact (Blk.new c _ _).alloc _
 have hE : Blk w5 (c.heap.size + 1) t #[.bool false, .slice none 0 0] := by rw [← h5]; exact Blk.new_at _ _ _ (by simp)
 have hb5 : Below c.heap.size c w5 := by rw [← h5]; exact ((Below.refl _ _).alloc (Nat.le_refl _) _).alloc (by simp) _
 obtain ⟨a0, a1, af⟩ := hA.c2
 obtain ⟨e0, e1, ef⟩ := hE.c2
 refine ⟨⟨a0, a1, e0, e1, af, ef⟩, _, rfl, ?_, ?_, ?_⟩
 ·exact ((hA.two q0 q1).far (p := ⟨c.heap.size + 1, 0, none⟩) (by simp) r0).far (p := ⟨c.heap.size + 1, 1, none⟩) (by simp) r1
 ·exact ((hE.far (p := ⟨c.heap.size, 0, none⟩) (by simp) q0).far (p := ⟨c.heap.size, 1, none⟩) (by simp) q1).two r0 r1
 ·exact (((hb5.setCell (Nat.le_refl _) _).setCell (Nat.le_refl _) _).setCell (by simp) _).setCell (by simp) _
theorem IntV.sign {w : World} {n : Bool} {a : Option Addr} {l k : Nat} {z : Int} (h : IntV w (.agg #[.bool n, .slice a l k]) z) : n = decide (z < 0) ∧ l = len z := by
 obtain ⟨a', c', e, -, -⟩ := h
 simp at e
 exact ⟨e.1, e.2.2.1⟩
theorem IntV.size {w : World} {n : Bool} {a : Option Addr} {l k : Nat} {z : Int} (h : IntV w (.agg #[.bool n, .slice a l k]) z) : IntV w (.agg #[.bool false, .slice a l k]) (z.natAbs : Int) := by
 obtain ⟨a', c', e, hf, hd⟩ := h
 simp at e
 obtain ⟨-, rfl, rfl, rfl⟩ := e
 exact ⟨a, k, by simp, by simpa using hf, by simpa using hd⟩
end Go.Proofs.Ytphjffbldhhdiaa

namespace Go.Proofs.Ytphjffbldhhdiaa
open Go.RowKit

section
variable {w c w1 : World} {v : Value} {z : Int}
theorem NumV.drewd (h : NumV w v z) : NumV w.drew v z := h
theorem NumV.allocd (h : NumV w v z) (o : Obj) : NumV (w.alloc o) v z := h.below ((Below.refl _ _).alloc (Nat.le_refl _) _) (Nat.le_refl _)
theorem NumV.later (hb : Below c.heap.size c w1) (h : NumV c v z) : NumV w1 v z := h.below hb (Nat.le_refl _)
end
/-- How many decimal digits a number has that a slice of few digits holds. -/
theorem dm_len {z : Int} (h : len z ≤ 1000000000) : Dm z := by
 have h1 : z.natAbs < BB ^ len z := by
  have h := val_lt (ds := dg BB z.natAbs) (b := BB) (dg_canon BB2 z.natAbs).1
  rwa [dg_val BB2] at h
 rw [BB_pow] at h1
 have h2 := dg_len T2 h1
 unfold Dm dlen
 omega
end Go.Proofs.Ytphjffbldhhdiaa
