/- Fractions' order; what the laws of collatorlaw02 begin with. -/
import Derived.Test.YthpibilefdmemaaDoorFLead
namespace Go.Proofs.YthpibilefdmemaaDoor
open Go.RowKit

theorem Qn.dl {m : Nat} {q : Rat} (h : Qn m q) (hm : m ≤ 1000000000) : dlen q.num ≤ 100000000000 ∧ dlen (q.den : Int) ≤ 100000000000 := ⟨dm_len (Nat.le_trans h.1 hm), dm_len (Nat.le_trans h.2 hm)⟩
theorem fodd2 (x y : RFr) (w : World) (hx : RFrOk w x) (hy : RFrOk w y) :
    Calls Tryd.prog 45 #[.slice (some ⟨w.heap.size, 0, none⟩) 2 2] (w.alloc (.cells #[.bool x.up.neg, .slice x.up.at_ x.up.ds.length x.up.cap, .bool x.dn.neg, .slice x.dn.at_ x.dn.ds.length x.dn.cap, .bool y.up.neg, .slice y.up.at_ y.up.ds.length y.up.cap, .bool y.dn.neg, .slice y.dn.at_ y.dn.ds.length y.dn.cap] 58)) fun e w' => ∃ o, e = .returned (.bool o) ∧ Below w.heap.size w w' ∧ (o = false → x.good ∧ y.good) := by
  obtain ⟨W, hW⟩ : ∃ W, w.alloc (.cells #[.bool x.up.neg, .slice x.up.at_ x.up.ds.length x.up.cap, .bool x.dn.neg, .slice x.dn.at_ x.dn.ds.length x.dn.cap, .bool y.up.neg, .slice y.up.at_ y.up.ds.length y.up.cap, .bool y.dn.neg, .slice y.dn.at_ y.dn.ds.length y.dn.cap] 58) = W := ⟨_, rfl⟩
  have hB : Blk W w.heap.size 58 #[.bool x.up.neg, .slice x.up.at_ x.up.ds.length x.up.cap, .bool x.dn.neg, .slice x.dn.at_ x.dn.ds.length x.dn.cap, .bool y.up.neg, .slice y.up.at_ y.up.ds.length y.up.cap, .bool y.dn.neg, .slice y.dn.at_ y.dn.ds.length y.dn.cap] := by rw [← hW]; exact Blk.new _ _ _
  have hb : Below w.heap.size w W := by rw [← hW]; exact (Below.refl _ _).alloc (Nat.le_refl _) _
  rw [hW]
  have hr : RFrRow W w.heap.size [x, y] := by
    intro i hi
    match i, hi with
    | 0, _ => exact ⟨hB.cell 0, hB.cell 1, hB.cell 2, hB.cell 3, hx.below hb (Nat.le_refl _)⟩
    | 1, _ => exact ⟨hB.cell 4, hB.cell 5, hB.cell 6, hB.cell 7, hy.below hb (Nat.le_refl _)⟩
  refine (FOdd_any w.heap.size [x, y] W hr (by simp)).mono ?_
  rintro e w' ⟨o, rfl, hb', h⟩
  exact ⟨o, rfl, hb.trans (hb'.mono hb.size), fun ho => ⟨h ho x (by simp), h ho y (by simp)⟩⟩
theorem fodd3 (x y z : RFr) (w : World) (hx : RFrOk w x) (hy : RFrOk w y) (hz : RFrOk w z) :
    Calls Tryd.prog 45 #[.slice (some ⟨w.heap.size, 0, none⟩) 3 3] (w.alloc (.cells #[.bool x.up.neg, .slice x.up.at_ x.up.ds.length x.up.cap, .bool x.dn.neg, .slice x.dn.at_ x.dn.ds.length x.dn.cap, .bool y.up.neg, .slice y.up.at_ y.up.ds.length y.up.cap, .bool y.dn.neg, .slice y.dn.at_ y.dn.ds.length y.dn.cap, .bool z.up.neg, .slice z.up.at_ z.up.ds.length z.up.cap, .bool z.dn.neg, .slice z.dn.at_ z.dn.ds.length z.dn.cap] 58)) fun e w' => ∃ o, e = .returned (.bool o) ∧ Below w.heap.size w w' ∧ (o = false → x.good ∧ y.good ∧ z.good) := by
  obtain ⟨W, hW⟩ : ∃ W, w.alloc (.cells #[.bool x.up.neg, .slice x.up.at_ x.up.ds.length x.up.cap, .bool x.dn.neg, .slice x.dn.at_ x.dn.ds.length x.dn.cap, .bool y.up.neg, .slice y.up.at_ y.up.ds.length y.up.cap, .bool y.dn.neg, .slice y.dn.at_ y.dn.ds.length y.dn.cap, .bool z.up.neg, .slice z.up.at_ z.up.ds.length z.up.cap, .bool z.dn.neg, .slice z.dn.at_ z.dn.ds.length z.dn.cap] 58) = W := ⟨_, rfl⟩
  have hB : Blk W w.heap.size 58 #[.bool x.up.neg, .slice x.up.at_ x.up.ds.length x.up.cap, .bool x.dn.neg, .slice x.dn.at_ x.dn.ds.length x.dn.cap, .bool y.up.neg, .slice y.up.at_ y.up.ds.length y.up.cap, .bool y.dn.neg, .slice y.dn.at_ y.dn.ds.length y.dn.cap, .bool z.up.neg, .slice z.up.at_ z.up.ds.length z.up.cap, .bool z.dn.neg, .slice z.dn.at_ z.dn.ds.length z.dn.cap] := by rw [← hW]; exact Blk.new _ _ _
  have hb : Below w.heap.size w W := by rw [← hW]; exact (Below.refl _ _).alloc (Nat.le_refl _) _
  rw [hW]
  have hr : RFrRow W w.heap.size [x, y, z] := by
    intro i hi
    match i, hi with
    | 0, _ => exact ⟨hB.cell 0, hB.cell 1, hB.cell 2, hB.cell 3, hx.below hb (Nat.le_refl _)⟩
    | 1, _ => exact ⟨hB.cell 4, hB.cell 5, hB.cell 6, hB.cell 7, hy.below hb (Nat.le_refl _)⟩
    | 2, _ => exact ⟨hB.cell 8, hB.cell 9, hB.cell 10, hB.cell 11, hz.below hb (Nat.le_refl _)⟩
  refine (FOdd_any w.heap.size [x, y, z] W hr (by simp)).mono ?_
  rintro e w' ⟨o, rfl, hb', h⟩
  exact ⟨o, rfl, hb.trans (hb'.mono hb.size), fun ho => ⟨h ho x (by simp), h ho y (by simp), h ho z (by simp)⟩⟩
theorem FCmp_at {c : World} {p q : Rat} {u v : Value} {C : Int} (hx : FracV c u p) (hy : FracV c v q) (hp : Qz p) (hq : Qz q) (hC : ordQ p q = C) : Calls Tryd.prog 46 #[u, v] c fun e w' => e = .returned (.int .i64 C) ∧ Below c.heap.size c w' := by
  subst hC; exact FCmp_any c hx hy hp hq
theorem RCmp2_at {c : World} {p q : Rat} {u v : Value} {C : Int} (hx : RFracV c u p) (hy : RFracV c v q) (hp : Qr p) (hq : Qr q) (hC : ordQ p q = C) : Calls Tryd.prog 58 #[u, v] c fun e w' => e = .returned (.int .i64 C) ∧ Below c.heap.size c w' := by
  subst hC; exact RCmp2_any c hx hy hp hq
theorem FOf2_any {x : Int} {u : Value} (w : World) (hx : IntV w u x) (hn : Sm x) : Calls Tryd.prog 44 #[u] w (FracPost w (x : Rat)) := by
  refine (FOf_any w hx hn).mono ?_
  rintro e w' ⟨r, he, hr, hb⟩
  refine ⟨r, he, ?_, hb⟩
  unfold FracV
  rw [Rat.num_intCast, und_int]
  exact hr
theorem FracV.len {w : World} {n m : Bool} {a b : Option Addr} {l k i j : Nat} {q : Rat} (h : FracV w (.agg #[.bool n, .slice a l k, .bool m, .slice b i j]) q) : l = len q.num ∧ i = len (und q) := by
  obtain ⟨_, _, _, _, _, _, _, _, e, h1, h2⟩ := h
  simp only [Value.agg.injEq, Array.mk.injEq, List.cons.injEq, Value.bool.injEq, Value.slice.injEq, and_true] at e
  obtain ⟨rfl, ⟨rfl, rfl, rfl⟩, rfl, ⟨rfl, rfl, rfl⟩⟩ := e
  exact ⟨h1.sign.2, h2.sign.2⟩
theorem FracV.zero (w : World) : FracV w (.agg #[.bool false, .slice none 0 0, .bool false, .slice none 0 0]) 0 := FrV.mk (IntV.zero w) (IntV.zero w)
theorem Qn.zero : Qn 1 (0 : Rat) := ⟨by decide, by
  show len ((1 : Nat) : Int) ≤ 1
  exact dg_len BB2 (by decide)⟩

theorem ordQ_cases (p q : Rat) : (p < q ∧ ordQ p q = -1) ∨ (p = q ∧ ordQ p q = 0) ∨ (q < p ∧ ordQ p q = 1) := by
  rw [ordQ_eq]
  by_cases h : p < q
  · left; exact ⟨h, if_pos h⟩
  · rw [if_neg h]
    by_cases h2 : q < p
    · right; right; exact ⟨h2, if_pos h2⟩
    · right; left; exact ⟨by grind, if_neg h2⟩
theorem ordQ_lt {p q : Rat} (h : p < q) : ordQ p q = -1 := by rw [ordQ_eq, if_pos h]
theorem ordQ_gt {p q : Rat} (h : q < p) : ordQ p q = 1 := by rw [ordQ_eq, if_neg (by grind), if_pos h]
theorem ordQ_self (p : Rat) : ordQ p p = 0 := by rw [ordQ_eq, if_neg (by grind), if_neg (by grind)]
theorem ordQ_add (p q r : Rat) : ordQ (p + r) (q + r) = ordQ p q := by
  rcases ordQ_cases p q with ⟨h, e⟩ | ⟨h, e⟩ | ⟨h, e⟩
  · rw [e, ordQ_lt (by grind)]
  · rw [h, ordQ_self, ordQ_self]
  · rw [e, ordQ_gt (by grind)]
theorem ordQ_neg (p q : Rat) : ordQ (-p) (-q) = -ordQ p q := by
  rcases ordQ_cases p q with ⟨h, e⟩ | ⟨h, e⟩ | ⟨h, e⟩
  · rw [e, ordQ_gt (by grind)]; rfl
  · rw [h, ordQ_self, ordQ_self]; rfl
  · rw [e, ordQ_lt (by grind)]
theorem mul_lt_right {p q r : Rat} (h : p < q) (hr : 0 < r) : p * r < q * r := Rat.mul_lt_mul_of_pos_right h hr
theorem ordQ_mul (p q r : Rat) : ordQ (p * r) (q * r) = ordQ p q * ordQ r 0 := by
  rcases ordQ_cases r 0 with ⟨hr, er⟩ | ⟨hr, er⟩ | ⟨hr, er⟩
  · have hr' : 0 < -r := by grind
    rcases ordQ_cases p q with ⟨h, e⟩ | ⟨h, e⟩ | ⟨h, e⟩
    · have := mul_lt_right h hr'
      rw [e, er, ordQ_gt (by rw [Rat.mul_neg, Rat.mul_neg] at this; grind)]; rfl
    · rw [h, ordQ_self, ordQ_self]; simp
    · have := mul_lt_right h hr'
      rw [e, er, ordQ_lt (by rw [Rat.mul_neg, Rat.mul_neg] at this; grind)]; rfl
  · subst hr
    rw [ordQ_self, Rat.mul_zero, Rat.mul_zero, ordQ_self]; simp
  · rcases ordQ_cases p q with ⟨h, e⟩ | ⟨h, e⟩ | ⟨h, e⟩
    · rw [e, er, ordQ_lt (mul_lt_right h hr)]; rfl
    · rw [h, ordQ_self, ordQ_self]; simp
    · rw [e, er, ordQ_gt (mul_lt_right h hr)]; rfl
theorem inv_lt {p q : Rat} (hp : 0 < p) (hq : 0 < q) (h : p < q) : (1 : Rat) / q < 1 / p := by
  rw [Rat.div_lt_iff hq, Rat.div_def, Rat.one_mul]
  have h1 : p⁻¹ * p < p⁻¹ * q := Rat.mul_lt_mul_of_pos_left h (Rat.inv_pos.2 hp)
  rwa [Rat.inv_mul_cancel p (by grind)] at h1
theorem ordQ_inv {p q : Rat} (hp : 0 < p) (hq : 0 < q) : ordQ (1 / p) (1 / q) = -ordQ p q := by
  rcases ordQ_cases p q with ⟨h, e⟩ | ⟨h, e⟩ | ⟨h, e⟩
  · rw [e, ordQ_gt (inv_lt hp hq h)]; rfl
  · rw [h, ordQ_self, ordQ_self]; rfl
  · rw [e, ordQ_lt (inv_lt hq hp h)]
theorem ordQ_floor (p : Rat) : ordQ (p.floor : Rat) p = if p.den = 1 then 0 else -1 := by
  by_cases h : p.den = 1
  · rw [if_pos h]
    have : (p.floor : Rat) = p := by
      have h1 : p.floor = p.num := by rw [Rat.floor_def, h]; simp
      rw [h1]
      exact Rat.ext (by rw [Rat.num_intCast]) (by rw [Rat.den_intCast, h])
    rw [this, ordQ_self]
  · rw [if_neg h]
    refine ordQ_lt ?_
    have h1 := Rat.floor_le p
    have h2 : (p.floor : Rat) ≠ p := fun e => h (by rw [← e, Rat.den_intCast])
    grind
theorem ordQ_floor1 (p : Rat) : ordQ p ((p.floor : Rat) + ((1 : Int) : Rat)) = -1 := by
  refine ordQ_lt ?_
  have := Rat.lt_floor_add_one p
  rwa [Rat.intCast_add] at this
end Go.Proofs.YthpibilefdmemaaDoor
