/- Fractions by their values; how they lie in memory. -/
import Derived.Test.YthpibilefdmemaaDoorNd
namespace Go.Proofs.YthpibilefdmemaaDoor
open Go.RowKit

def und (q : Rat) : Int := if q.den = 1 then 0 else (q.den : Int)
def ben (b : Int) : Int := if b = 0 then 1 else b
theorem ben_und (q : Rat) : ben (und q) = (q.den : Int) := by
  have := q.den_nz
  unfold ben und
  by_cases h : q.den = 1
  · simp [h]
  · rw [if_neg h, if_neg (by omega)]
theorem und_nonneg (q : Rat) : 0 ≤ und q := by unfold und; split <;> omega
/-- x through y, made. -/
theorem make_num {x y : Int} (hy : y ≠ 0) : (Rat.divInt x y).num = (if y < 0 then -x else x) / (Nat.gcd x.natAbs y.natAbs : Int) := by
  rw [Rat.num_divInt, Int.gcd, Nat.gcd_comm]
  rcases Int.lt_trichotomy y 0 with h | h | h
  · rw [if_pos h, Int.sign_eq_neg_one_of_neg h]; simp
  · exact absurd h hy
  · rw [if_neg (by omega), Int.sign_eq_one_of_pos h]; simp
theorem make_den {x y : Int} (hy : y ≠ 0) : ((Rat.divInt x y).den : Int) = (y.natAbs : Int) / (Nat.gcd x.natAbs y.natAbs : Int) := by
  rw [Rat.den_divInt, if_neg hy, Int.gcd, Nat.gcd_comm]; simp
/-- The divisor with y's sign. -/
def gsg (x y : Int) : Int := if y < 0 then -(Nat.gcd x.natAbs y.natAbs : Int) else (Nat.gcd x.natAbs y.natAbs : Int)
theorem gsg_ne {x y : Int} (hy : y ≠ 0) : gsg x y ≠ 0 := by
  have : 0 < Nat.gcd x.natAbs y.natAbs := Nat.gcd_pos_of_pos_right _ (by omega)
  unfold gsg; split <;> omega
theorem gsg_dvd_x (x y : Int) : gsg x y ∣ x := by
  have h : (Nat.gcd x.natAbs y.natAbs : Int) ∣ x := Int.ofNat_dvd_left.2 (Nat.gcd_dvd_left _ _)
  unfold gsg; split
  · exact Int.neg_dvd.2 h
  · exact h
theorem gsg_dvd_y (x y : Int) : gsg x y ∣ y := by
  have h : (Nat.gcd x.natAbs y.natAbs : Int) ∣ y := Int.ofNat_dvd_left.2 (Nat.gcd_dvd_right _ _)
  unfold gsg; split
  · exact Int.neg_dvd.2 h
  · exact h
theorem make_over {x y : Int} (hy : y ≠ 0) : x / gsg x y = (Rat.divInt x y).num := by
  rw [make_num hy]
  have h : (Nat.gcd x.natAbs y.natAbs : Int) ∣ x := Int.ofNat_dvd_left.2 (Nat.gcd_dvd_left _ _)
  unfold gsg
  split
  · rw [Int.ediv_neg, Int.neg_ediv_of_dvd h]
  · rfl
theorem make_below {x y : Int} (hy : y ≠ 0) : y / gsg x y = ((Rat.divInt x y).den : Int) := by
  rw [make_den hy]
  have h : (Nat.gcd x.natAbs y.natAbs : Int) ∣ (y.natAbs : Int) := Int.natCast_dvd_natCast.2 (Nat.gcd_dvd_right _ _)
  unfold gsg
  split
  · rename_i h0
    rw [show y = -(y.natAbs : Int) by omega, Int.natAbs_neg, Int.natAbs_natCast, Int.ediv_neg, Int.neg_ediv_of_dvd h, Int.neg_neg]
  · rename_i h0
    rw [show (y.natAbs : Int) = y by omega]
theorem divInt_num_le (x y : Int) : (Rat.divInt x y).num.natAbs ≤ x.natAbs := by
  by_cases hy : y = 0
  · subst hy; rw [Rat.divInt_zero]; simp
  · rw [← make_over hy]; exact Int.natAbs_ediv_le_natAbs _ _
theorem divInt_den_le {x y : Int} (hy : y ≠ 0) : (Rat.divInt x y).den ≤ y.natAbs := by
  have h := Int.natAbs_ediv_le_natAbs y (gsg x y)
  rw [make_below hy] at h
  simpa using h
theorem add_div (p q : Rat) : Rat.divInt (p.num * (q.den : Int) + q.num * (p.den : Int)) ((p.den : Int) * (q.den : Int)) = p + q := by
  have h1 := p.den_nz
  have h2 := q.den_nz
  rw [← Rat.divInt_add_divInt _ _ (by omega) (by omega), Rat.num_divInt_den, Rat.num_divInt_den]
theorem mul_div (p q : Rat) : Rat.divInt (p.num * q.num) ((p.den : Int) * (q.den : Int)) = p * q := by
  rw [← Rat.divInt_mul_divInt, Rat.num_divInt_den, Rat.num_divInt_den]
theorem div_div (p q : Rat) : Rat.divInt (p.num * (q.den : Int)) ((p.den : Int) * q.num) = p / q := by
  rw [← Rat.divInt_mul_divInt, Rat.num_divInt_den, Rat.div_def, Rat.inv_def]
theorem und_neg (q : Rat) : und (-q) = und q := by unfold und; rw [Rat.neg_den]
theorem und_int (z : Int) : und (z : Rat) = 0 := by unfold und; rw [Rat.den_intCast]; rfl

/-- A fraction by its two integers. -/
def FrV (w : World) (v : Value) (a b : Int) : Prop := ∃ (n1 : Bool) (a1 : Option Addr) (l1 k1 : Nat) (n2 : Bool) (a2 : Option Addr) (l2 k2 : Nat), v = .agg #[.bool n1, .slice a1 l1 k1, .bool n2, .slice a2 l2 k2] ∧ IntV w (.agg #[.bool n1, .slice a1 l1 k1]) a ∧ IntV w (.agg #[.bool n2, .slice a2 l2 k2]) b
/-- A fraction by its value. -/
def FracV (w : World) (v : Value) (q : Rat) : Prop := FrV w v q.num (und q)
/-- A fraction of the document by its value. -/
def RFrV (w : World) (v : Value) (a b : Int) : Prop := ∃ (n1 : Bool) (a1 : Option Addr) (l1 k1 : Nat) (n2 : Bool) (a2 : Option Addr) (l2 k2 : Nat), v = .agg #[.bool n1, .slice a1 l1 k1, .bool n2, .slice a2 l2 k2] ∧ NumV w (.agg #[.bool n1, .slice a1 l1 k1]) a ∧ NumV w (.agg #[.bool n2, .slice a2 l2 k2]) b
def RFracV (w : World) (v : Value) (q : Rat) : Prop := RFrV w v q.num (q.den : Int)
def FrPost (w : World) (a b : Int) (e : Ending) (w' : World) : Prop := ∃ r, e = .returned r ∧ FrV w' r a b ∧ Below w.heap.size w w'
def FracPost (w : World) (q : Rat) (e : Ending) (w' : World) : Prop := ∃ r, e = .returned r ∧ FracV w' r q ∧ Below w.heap.size w w'
def RFrPost (w : World) (a b : Int) (e : Ending) (w' : World) : Prop := ∃ r, e = .returned r ∧ RFrV w' r a b ∧ Below w.heap.size w w'
def RFracPost (w : World) (q : Rat) (e : Ending) (w' : World) : Prop := ∃ r, e = .returned r ∧ RFracV w' r q ∧ Below w.heap.size w w'
section
variable {w w' : World} {v : Value} {a b : Int} {q : Rat} {B : Nat}
theorem FrV.below (h : FrV w v a b) (hb : Below B w w') (hB : w.heap.size ≤ B) : FrV w' v a b := by
  obtain ⟨_, _, _, _, _, _, _, _, e, h1, h2⟩ := h
  exact ⟨_, _, _, _, _, _, _, _, e, h1.below hb hB, h2.below hb hB⟩
theorem FracV.below (h : FracV w v q) (hb : Below B w w') (hB : w.heap.size ≤ B) : FracV w' v q := FrV.below h hb hB
theorem RFrV.below (h : RFrV w v a b) (hb : Below B w w') (hB : w.heap.size ≤ B) : RFrV w' v a b := by
  obtain ⟨_, _, _, _, _, _, _, _, e, h1, h2⟩ := h
  exact ⟨_, _, _, _, _, _, _, _, e, h1.below hb hB, h2.below hb hB⟩
theorem RFracV.below (h : RFracV w v q) (hb : Below B w w') (hB : w.heap.size ≤ B) : RFracV w' v q := RFrV.below h hb hB
theorem FrV.parts (h : FrV w v a b) : ∃ (n1 : Bool) (a1 : Option Addr) (l1 k1 : Nat) (n2 : Bool) (a2 : Option Addr) (l2 k2 : Nat), v = .agg #[.bool n1, .slice a1 l1 k1, .bool n2, .slice a2 l2 k2] ∧ IntV w (.agg #[.bool n1, .slice a1 l1 k1]) a ∧ IntV w (.agg #[.bool n2, .slice a2 l2 k2]) b := h
theorem RFrV.parts (h : RFrV w v a b) : ∃ (n1 : Bool) (a1 : Option Addr) (l1 k1 : Nat) (n2 : Bool) (a2 : Option Addr) (l2 k2 : Nat), v = .agg #[.bool n1, .slice a1 l1 k1, .bool n2, .slice a2 l2 k2] ∧ NumV w (.agg #[.bool n1, .slice a1 l1 k1]) a ∧ NumV w (.agg #[.bool n2, .slice a2 l2 k2]) b := h
theorem FrV.mk {n1 : Bool} {a1 : Option Addr} {l1 k1 : Nat} {n2 : Bool} {a2 : Option Addr} {l2 k2 : Nat} (h1 : IntV w (.agg #[.bool n1, .slice a1 l1 k1]) a) (h2 : IntV w (.agg #[.bool n2, .slice a2 l2 k2]) b) : FrV w (.agg #[.bool n1, .slice a1 l1 k1, .bool n2, .slice a2 l2 k2]) a b := ⟨_, _, _, _, _, _, _, _, rfl, h1, h2⟩
theorem RFrV.mk {n1 : Bool} {a1 : Option Addr} {l1 k1 : Nat} {n2 : Bool} {a2 : Option Addr} {l2 k2 : Nat} (h1 : NumV w (.agg #[.bool n1, .slice a1 l1 k1]) a) (h2 : NumV w (.agg #[.bool n2, .slice a2 l2 k2]) b) : RFrV w (.agg #[.bool n1, .slice a1 l1 k1, .bool n2, .slice a2 l2 k2]) a b := ⟨_, _, _, _, _, _, _, _, rfl, h1, h2⟩
end

/-- A box of a sign and digits, whatever they are. -/
def isN (cs : Array Value) : Prop := ∀ (i : Nat) (k : IntKind) (z : Int), cs[i]? ≠ some (.int k z)
theorem isN2 (n : Bool) (a : Option Addr) (l k : Nat) : isN #[.bool n, .slice a l k] := by
  intro i q z h
  rcases i with _ | _ | i <;> simp at h
theorem isN4 (n : Bool) (a : Option Addr) (l k : Nat) (n' : Bool) (a' : Option Addr) (l' k' : Nat) : isN #[.bool n, .slice a l k, .bool n', .slice a' l' k'] := by
  intro i q z h
  rcases i with _ | _ | _ | _ | i <;> simp at h
section
variable {w w' c : World} {g : Nat} {t : TypeId} {cs : Array Value} {p q r s : Value}
theorem Blk.c4 (h : Blk w g t #[p, q, r, s]) : w.cell? ⟨g, 0, none⟩ = some p ∧ w.cell? ⟨g, 1, none⟩ = some q ∧ w.cell? ⟨g, 2, none⟩ = some r ∧ w.cell? ⟨g, 3, none⟩ = some s ∧ ∀ i, w.frozen? ⟨g, i, none⟩ = false :=
  ⟨h.cell 0, h.cell 1, h.cell 2, h.cell 3, h.frozen⟩
theorem Blk.four (h : Blk w g t #[p, q, r, s]) (x y z u : Value) : Blk ((((w.setCell ⟨g, 0, none⟩ x).setCell ⟨g, 1, none⟩ y).setCell ⟨g, 2, none⟩ z).setCell ⟨g, 3, none⟩ u) g t #[x, y, z, u] :=
  (((h.set_ 0 x).set_ 1 y).set_ 2 z).set_ 3 u
theorem Blk.front (h : Blk w g t #[p, q, r, s]) (x y : Value) : Blk ((w.setCell ⟨g, 0, none⟩ x).setCell ⟨g, 1, none⟩ y) g t #[x, y, r, s] := (h.set_ 0 x).set_ 1 y
theorem Blk.back (h : Blk w g t #[p, q, r, s]) (x y : Value) : Blk ((w.setCell ⟨g, 2, none⟩ x).setCell ⟨g, 3, none⟩ y) g t #[p, q, x, y] := (h.set_ 2 x).set_ 3 y
theorem Dg.set1 {k : IntKind} {a : Option Addr} {ds : List Nat} (h : Dg k w a ds) (hB : Blk w g t cs) {i : Nat} (hi : ∀ z, cs[i]? ≠ some (.int k z)) (u : Value) : Dg k (w.setCell ⟨g, i, none⟩ u) a ds := by
  intro hn
  obtain ⟨b, off, e, hc⟩ := h hn
  refine ⟨b, off, e, fun j hj => ?_⟩
  have hne : (⟨g, i, none⟩ : Addr) ≠ ⟨b, off + j, none⟩ := fun e => by
    have := hc j hj
    rw [← e, hB.cell i] at this
    exact hi _ this
  rw [World.cell?_setCell_other _ _ _ _ hne]
  exact hc j hj
theorem IntV.set1 {v : Value} {z : Int} (h : IntV w v z) (hB : Blk w g t cs) {i : Nat} (hi : ∀ (k : IntKind) (z : Int), cs[i]? ≠ some (.int k z)) (u : Value) : IntV (w.setCell ⟨g, i, none⟩ u) v z := by
  obtain ⟨a, cap, e, hf, hd⟩ := h
  exact ⟨a, cap, e, hf, hd.set1 hB (hi _) u⟩
theorem NumV.set1 {v : Value} {z : Int} (h : NumV w v z) (hB : Blk w g t cs) {i : Nat} (hi : ∀ (k : IntKind) (z : Int), cs[i]? ≠ some (.int k z)) (u : Value) : NumV (w.setCell ⟨g, i, none⟩ u) v z := by
  obtain ⟨a, cap, e, hf, hd⟩ := h
  exact ⟨a, cap, e, hf, hd.set1 hB (hi _) u⟩
variable {n n' : Bool} {a a' : Option Addr} {l k l' k' : Nat} {v : Value} {z : Int}
/-- What an integer's value asks of a store into a box of two cells, four cells. -/
theorem IntV.st2 (h : IntV w v z) (hB : Blk w g t #[.bool n, .slice a l k]) (x y : Value) : IntV ((w.setCell ⟨g, 0, none⟩ x).setCell ⟨g, 1, none⟩ y) v z :=
  (h.set1 hB (isN2 _ _ _ _ 0) x).set1 (hB.set_ 0 x) (by intro q u; simp) y
theorem NumV.st2 (h : NumV w v z) (hB : Blk w g t #[.bool n, .slice a l k]) (x y : Value) : NumV ((w.setCell ⟨g, 0, none⟩ x).setCell ⟨g, 1, none⟩ y) v z :=
  (h.set1 hB (isN2 _ _ _ _ 0) x).set1 (hB.set_ 0 x) (by intro q u; simp) y
theorem IntV.stf (h : IntV w v z) (hB : Blk w g t #[.bool n, .slice a l k, .bool n', .slice a' l' k']) (x y : Value) : IntV ((w.setCell ⟨g, 0, none⟩ x).setCell ⟨g, 1, none⟩ y) v z :=
  (h.set1 hB (isN4 _ _ _ _ _ _ _ _ 0) x).set1 (hB.set_ 0 x) (by intro q u; simp) y
theorem NumV.stf (h : NumV w v z) (hB : Blk w g t #[.bool n, .slice a l k, .bool n', .slice a' l' k']) (x y : Value) : NumV ((w.setCell ⟨g, 0, none⟩ x).setCell ⟨g, 1, none⟩ y) v z :=
  (h.set1 hB (isN4 _ _ _ _ _ _ _ _ 0) x).set1 (hB.set_ 0 x) (by intro q u; simp) y
theorem IntV.stb (h : IntV w v z) {p q : Value} (hB : Blk w g t #[p, q, .bool n', .slice a' l' k']) (x y : Value) : IntV ((w.setCell ⟨g, 2, none⟩ x).setCell ⟨g, 3, none⟩ y) v z :=
  (h.set1 hB (by intro q u; simp) x).set1 (hB.set_ 2 x) (by intro q u; simp) y
theorem NumV.stb (h : NumV w v z) {p q : Value} (hB : Blk w g t #[p, q, .bool n', .slice a' l' k']) (x y : Value) : NumV ((w.setCell ⟨g, 2, none⟩ x).setCell ⟨g, 3, none⟩ y) v z :=
  (h.set1 hB (by intro q u; simp) x).set1 (hB.set_ 2 x) (by intro q u; simp) y
theorem IntV.st4 (h : IntV w v z) (hB : Blk w g t #[.bool n, .slice a l k, .bool n', .slice a' l' k']) (x y x' y' : Value) : IntV ((((w.setCell ⟨g, 0, none⟩ x).setCell ⟨g, 1, none⟩ y).setCell ⟨g, 2, none⟩ x').setCell ⟨g, 3, none⟩ y') v z :=
  (h.stf hB x y).stb (hB.front x y) x' y'
theorem NumV.st4 (h : NumV w v z) (hB : Blk w g t #[.bool n, .slice a l k, .bool n', .slice a' l' k']) (x y x' y' : Value) : NumV ((((w.setCell ⟨g, 0, none⟩ x).setCell ⟨g, 1, none⟩ y).setCell ⟨g, 2, none⟩ x').setCell ⟨g, 3, none⟩ y') v z :=
  (h.stf hB x y).stb (hB.front x y) x' y'
theorem FrV.st4 {A B : Int} (h : FrV w v A B) (hB : Blk w g t #[.bool n, .slice a l k, .bool n', .slice a' l' k']) (x y x' y' : Value) : FrV ((((w.setCell ⟨g, 0, none⟩ x).setCell ⟨g, 1, none⟩ y).setCell ⟨g, 2, none⟩ x').setCell ⟨g, 3, none⟩ y') v A B := by
  obtain ⟨_, _, _, _, _, _, _, _, e, h1, h2⟩ := h
  exact ⟨_, _, _, _, _, _, _, _, e, h1.st4 hB _ _ _ _, h2.st4 hB _ _ _ _⟩
theorem RFrV.st4 {A B : Int} (h : RFrV w v A B) (hB : Blk w g t #[.bool n, .slice a l k, .bool n', .slice a' l' k']) (x y x' y' : Value) : RFrV ((((w.setCell ⟨g, 0, none⟩ x).setCell ⟨g, 1, none⟩ y).setCell ⟨g, 2, none⟩ x').setCell ⟨g, 3, none⟩ y') v A B := by
  obtain ⟨_, _, _, _, _, _, _, _, e, h1, h2⟩ := h
  exact ⟨_, _, _, _, _, _, _, _, e, h1.st4 hB _ _ _ _, h2.st4 hB _ _ _ _⟩
theorem set4b {w0 : World} {m : Nat} (h : Below m w0 w) (hg : m ≤ g) (x y x' y' : Value) : Below m w0 ((((w.setCell ⟨g, 0, none⟩ x).setCell ⟨g, 1, none⟩ y).setCell ⟨g, 2, none⟩ x').setCell ⟨g, 3, none⟩ y') :=
  (((h.setCell hg _).setCell hg _).setCell hg _).setCell hg _
theorem set2b {w0 : World} {m : Nat} (h : Below m w0 w) (hg : m ≤ g) (i j : Nat) (x y : Value) : Below m w0 ((w.setCell ⟨g, i, none⟩ x).setCell ⟨g, j, none⟩ y) :=
  (h.setCell hg _).setCell hg _
theorem cell4F {x : Addr} {p q r s v : Value} (hne : x.block ≠ g) (h : c.cell? x = some v) : ((((c.setCell ⟨g, 0, none⟩ p).setCell ⟨g, 1, none⟩ q).setCell ⟨g, 2, none⟩ r).setCell ⟨g, 3, none⟩ s).cell? x = some v := by
  have k : ∀ i, (⟨g, i, none⟩ : Addr) ≠ x := fun i e => hne (by rw [← e])
  rw [World.cell?_setCell_other _ _ _ _ (k 3), World.cell?_setCell_other _ _ _ _ (k 2), World.cell?_setCell_other _ _ _ _ (k 1), World.cell?_setCell_other _ _ _ _ (k 0)]
  exact h
end

theorem sm_neg {x : Int} (h : Sm x) : Sm (-x) := by unfold Sm at *; rw [len_neg]; exact h
theorem sm_gcd {x y : Int} (hx : Sm x) (hy : Sm y) : Sm ((Nat.gcd x.natAbs y.natAbs : Nat) : Int) := by
  unfold Sm at *
  rcases Nat.eq_zero_or_pos y.natAbs with h | h
  · rw [h, Nat.gcd_zero_right]; exact Nat.le_trans (len_le (by simp)) hx
  · exact Nat.le_trans (len_le (y := y) (by have := Nat.le_of_dvd h (Nat.gcd_dvd_right x.natAbs y.natAbs); omega)) hy
theorem sm_num {x y : Int} (hx : Sm x) : Sm (Rat.divInt x y).num := Nat.le_trans (len_le (divInt_num_le x y)) hx
theorem sm_den {x y : Int} (hy : Sm y) : Sm ((Rat.divInt x y).den : Int) := by
  by_cases h : y = 0
  · subst h; rw [Rat.divInt_zero, Rat.zero_den]; exact sm_small (by decide)
  · exact Nat.le_trans (len_le (by simpa using divInt_den_le h)) hy

/-- How great a fraction's two integers may be. -/
def Qn (n : Nat) (q : Rat) : Prop := len q.num ≤ n ∧ len (q.den : Int) ≤ n
def Qz (q : Rat) : Prop := Qn 100000000000 q
section
variable {m n k : Nat} {p q : Rat}
theorem Qn.mono (h : Qn m q) (hk : m ≤ n) : Qn n q := ⟨Nat.le_trans h.1 hk, Nat.le_trans h.2 hk⟩
theorem Qn.z (h : Qn m q) (hk : m ≤ 100000000000) : Qz q := Qn.mono h hk
theorem len_of_natAbs {x y : Int} (h : x.natAbs ≤ y.natAbs) : len x ≤ len y := len_le h
theorem Qn.make {x y : Int} (hx : len x ≤ n) (hy : len y ≤ n) (h1 : 1 ≤ n) : Qn n (Rat.divInt x y) := by
  refine ⟨Nat.le_trans (len_le (divInt_num_le x y)) hx, ?_⟩
  by_cases h : y = 0
  · subst h
    rw [Rat.divInt_zero, Rat.zero_den]
    exact Nat.le_trans (show len ((1 : Nat) : Int) ≤ 1 from dg_len BB2 (by decide)) h1
  · exact Nat.le_trans (len_le (by simpa using divInt_den_le h)) hy
theorem Qn.den1 (h : Qn n q) : 1 ≤ n := by
  refine Nat.le_trans ?_ h.2
  rcases Nat.eq_zero_or_pos (len (q.den : Int)) with e | e
  · exfalso
    have := (dg_eq_nil BB2).1 (List.length_eq_zero_iff.1 e)
    have h2 := q.den_nz
    simp at this
    exact h2 this
  · exact e
theorem Qn.add (hp : Qn m p) (hq : Qn n q) : Qn (m + n + 1) (p + q) := by
  rw [← add_div]
  have h1 := len_mul p.num (q.den : Int)
  have h2 := len_mul q.num (p.den : Int)
  have h3 := len_add (p.num * (q.den : Int)) (q.num * (p.den : Int))
  have h4 := len_mul (p.den : Int) (q.den : Int)
  obtain ⟨a1, a2⟩ := hp
  obtain ⟨b1, b2⟩ := hq
  exact Qn.make (by omega) (by omega) (by omega)
theorem Qn.mul (hp : Qn m p) (hq : Qn n q) : Qn (m + n) (p * q) := by
  rw [← mul_div]
  have h0 := hp.den1
  have h1 := len_mul p.num q.num
  have h4 := len_mul (p.den : Int) (q.den : Int)
  obtain ⟨a1, a2⟩ := hp
  obtain ⟨b1, b2⟩ := hq
  exact Qn.make (by omega) (by omega) (by omega)
theorem Qn.div (hp : Qn m p) (hq : Qn n q) : Qn (m + n) (p / q) := by
  rw [← div_div]
  have h0 := hp.den1
  have h1 := len_mul p.num (q.den : Int)
  have h4 := len_mul (p.den : Int) q.num
  obtain ⟨a1, a2⟩ := hp
  obtain ⟨b1, b2⟩ := hq
  exact Qn.make (by omega) (by omega) (by omega)
theorem Qn.neg (hp : Qn m p) : Qn m (-p) := by
  refine ⟨?_, ?_⟩
  · rw [Rat.neg_num, len_neg]; exact hp.1
  · rw [Rat.neg_den]; exact hp.2
theorem Qn.int {z : Int} (h : len z ≤ n) (h1 : 1 ≤ n) : Qn n (z : Rat) := by
  refine ⟨by rw [Rat.num_intCast]; exact h, ?_⟩
  rw [Rat.den_intCast]
  exact Nat.le_trans (show len ((1 : Nat) : Int) ≤ 1 from dg_len BB2 (by decide)) h1
theorem len_und (h : Qn m q) : len (und q) ≤ m := by
  unfold und
  split
  · exact Nat.zero_le _
  · exact h.2
end

/-- The result's block of four cells is there; what was there before is as it was. -/
structure Kq (w : World) (t : TypeId) (g : Nat) (c : World) : Prop where
  bel : Below w.heap.size w c
  le : w.heap.size ≤ g
  blk : ∃ (n : Bool) (a : Option Addr) (l k : Nat) (n' : Bool) (a' : Option Addr) (l' k' : Nat), Blk c g t #[.bool n, .slice a l k, .bool n', .slice a' l' k']
section
variable {w c w1 : World} {t : TypeId} {g : Nat}
theorem Kq.below (h : Kq w t g c) (hb : Below c.heap.size c w1) : Kq w t g w1 := by
  obtain ⟨h1, h2, n, a, l, k, n', a', l', k', h3⟩ := h
  exact ⟨h1.trans (hb.mono h1.size), h2, n, a, l, k, n', a', l', k', h3.below hb h3.lt⟩
theorem Kq.drew (h : Kq w t g c) : Kq w t g c.drew := ⟨h.1.drew, h.2, h.3⟩
theorem Kq.put {p q r s : Value} (hp : isB p) (hq : isS q) (hr : isB r) (hs : isS s) (h : Kq w t g c) : Kq w t g ((((c.setCell ⟨g, 0, none⟩ p).setCell ⟨g, 1, none⟩ q).setCell ⟨g, 2, none⟩ r).setCell ⟨g, 3, none⟩ s) := by
  obtain ⟨h1, h2, n, a, l, k, n', a', l', k', h3⟩ := h
  obtain ⟨m, rfl⟩ := hp
  obtain ⟨x, y, z, rfl⟩ := hq
  obtain ⟨m', rfl⟩ := hr
  obtain ⟨x', y', z', rfl⟩ := hs
  exact ⟨set4b h1 h2 _ _ _ _, h2, m, x, y, z, m', x', y', z', h3.four _ _ _ _⟩
/-- What a store into the result's block asks and leaves. -/
theorem Kq.at (h : Kq w t g c) (hb : Below c.heap.size c w1) : ∃ (n : Bool) (a : Option Addr) (l k : Nat) (n' : Bool) (a' : Option Addr) (l' k' : Nat), w1.cell? ⟨g, 0, none⟩ = some (.bool n) ∧ w1.cell? ⟨g, 1, none⟩ = some (.slice a l k) ∧ w1.cell? ⟨g, 2, none⟩ = some (.bool n') ∧ w1.cell? ⟨g, 3, none⟩ = some (.slice a' l' k') ∧ w1.frozen? ⟨g, 0, none⟩ = false ∧ w1.frozen? ⟨g, 1, none⟩ = false ∧ w1.frozen? ⟨g, 2, none⟩ = false ∧ w1.frozen? ⟨g, 3, none⟩ = false ∧ Blk w1 g t #[.bool n, .slice a l k, .bool n', .slice a' l' k'] := by
  obtain ⟨h1, h2, n, a, l, m, n', a', l', m', k⟩ := h
  have k' := k.below hb k.lt
  obtain ⟨c0, c1, c2, c3, hf⟩ := k'.c4
  exact ⟨n, a, l, m, n', a', l', m', c0, c1, c2, c3, hf 0, hf 1, hf 2, hf 3, k'⟩
end
theorem keepL2 {w c w1 : World} {t : TypeId} {g : Nat} {g0 o0 g1 o1 : Nat} {v0 v1 : Value} (h : c.cell? ⟨g0, o0, none⟩ = some v0 ∧ c.cell? ⟨g1, o1, none⟩ = some v1 ∧ Kq w t g c) (hb : Below c.heap.size c w1) : w1.cell? ⟨g0, o0, none⟩ = some v0 ∧ w1.cell? ⟨g1, o1, none⟩ = some v1 ∧ Kq w t g w1 := by
  obtain ⟨h0, h1, hk⟩ := h
  exact ⟨cellK hb h0, cellK hb h1, hk.below hb⟩
theorem keepQ2 {w c : World} {t : TypeId} {g : Nat} {g0 o0 g1 o1 : Nat} {v0 v1 : Value} (d0 : g0 ≠ g) (d1 : g1 ≠ g) (p q r s : Value) (hp : isB p) (hq : isS q) (hr : isB r) (hs : isS s) (h : c.cell? ⟨g0, o0, none⟩ = some v0 ∧ c.cell? ⟨g1, o1, none⟩ = some v1 ∧ Kq w t g c) : ((((c.setCell ⟨g, 0, none⟩ p).setCell ⟨g, 1, none⟩ q).setCell ⟨g, 2, none⟩ r).setCell ⟨g, 3, none⟩ s).cell? ⟨g0, o0, none⟩ = some v0 ∧ ((((c.setCell ⟨g, 0, none⟩ p).setCell ⟨g, 1, none⟩ q).setCell ⟨g, 2, none⟩ r).setCell ⟨g, 3, none⟩ s).cell? ⟨g1, o1, none⟩ = some v1 ∧ Kq w t g ((((c.setCell ⟨g, 0, none⟩ p).setCell ⟨g, 1, none⟩ q).setCell ⟨g, 2, none⟩ r).setCell ⟨g, 3, none⟩ s) := by
  obtain ⟨h0, h1, hk⟩ := h
  exact ⟨cell4F (x := ⟨g0, o0, none⟩) d0 h0, cell4F (x := ⟨g1, o1, none⟩) d1 h1, hk.put hp hq hr hs⟩
theorem keepZ2 {w c w1 : World} {g0 o0 g1 o1 : Nat} {v0 v1 : Value} (h : c.cell? ⟨g0, o0, none⟩ = some v0 ∧ c.cell? ⟨g1, o1, none⟩ = some v1 ∧ Below w.heap.size w c) (hb : Below c.heap.size c w1) : w1.cell? ⟨g0, o0, none⟩ = some v0 ∧ w1.cell? ⟨g1, o1, none⟩ = some v1 ∧ Below w.heap.size w w1 := by
  obtain ⟨h0, h1, hk⟩ := h
  exact ⟨cellK hb h0, cellK hb h1, hk.trans (hb.mono hk.size)⟩
theorem keepL4 {w c w1 : World} {t : TypeId} {g : Nat} {g0 o0 g1 o1 g2 o2 g3 o3 : Nat} {v0 v1 v2 v3 : Value} (h : c.cell? ⟨g0, o0, none⟩ = some v0 ∧ c.cell? ⟨g1, o1, none⟩ = some v1 ∧ c.cell? ⟨g2, o2, none⟩ = some v2 ∧ c.cell? ⟨g3, o3, none⟩ = some v3 ∧ Kq w t g c) (hb : Below c.heap.size c w1) : w1.cell? ⟨g0, o0, none⟩ = some v0 ∧ w1.cell? ⟨g1, o1, none⟩ = some v1 ∧ w1.cell? ⟨g2, o2, none⟩ = some v2 ∧ w1.cell? ⟨g3, o3, none⟩ = some v3 ∧ Kq w t g w1 := by
  obtain ⟨h0, h1, h2, h3, hk⟩ := h
  exact ⟨cellK hb h0, cellK hb h1, cellK hb h2, cellK hb h3, hk.below hb⟩
theorem keepQ4 {w c : World} {t : TypeId} {g : Nat} {g0 o0 g1 o1 g2 o2 g3 o3 : Nat} {v0 v1 v2 v3 : Value} (d0 : g0 ≠ g) (d1 : g1 ≠ g) (d2 : g2 ≠ g) (d3 : g3 ≠ g) (p q r s : Value) (hp : isB p) (hq : isS q) (hr : isB r) (hs : isS s) (h : c.cell? ⟨g0, o0, none⟩ = some v0 ∧ c.cell? ⟨g1, o1, none⟩ = some v1 ∧ c.cell? ⟨g2, o2, none⟩ = some v2 ∧ c.cell? ⟨g3, o3, none⟩ = some v3 ∧ Kq w t g c) : ((((c.setCell ⟨g, 0, none⟩ p).setCell ⟨g, 1, none⟩ q).setCell ⟨g, 2, none⟩ r).setCell ⟨g, 3, none⟩ s).cell? ⟨g0, o0, none⟩ = some v0 ∧ ((((c.setCell ⟨g, 0, none⟩ p).setCell ⟨g, 1, none⟩ q).setCell ⟨g, 2, none⟩ r).setCell ⟨g, 3, none⟩ s).cell? ⟨g1, o1, none⟩ = some v1 ∧ ((((c.setCell ⟨g, 0, none⟩ p).setCell ⟨g, 1, none⟩ q).setCell ⟨g, 2, none⟩ r).setCell ⟨g, 3, none⟩ s).cell? ⟨g2, o2, none⟩ = some v2 ∧ ((((c.setCell ⟨g, 0, none⟩ p).setCell ⟨g, 1, none⟩ q).setCell ⟨g, 2, none⟩ r).setCell ⟨g, 3, none⟩ s).cell? ⟨g3, o3, none⟩ = some v3 ∧ Kq w t g ((((c.setCell ⟨g, 0, none⟩ p).setCell ⟨g, 1, none⟩ q).setCell ⟨g, 2, none⟩ r).setCell ⟨g, 3, none⟩ s) := by
  obtain ⟨h0, h1, h2, h3, hk⟩ := h
  exact ⟨cell4F (x := ⟨g0, o0, none⟩) d0 h0, cell4F (x := ⟨g1, o1, none⟩) d1 h1, cell4F (x := ⟨g2, o2, none⟩) d2 h2, cell4F (x := ⟨g3, o3, none⟩) d3 h3, hk.put hp hq hr hs⟩
theorem keepZ4 {w c w1 : World} {g0 o0 g1 o1 g2 o2 g3 o3 : Nat} {v0 v1 v2 v3 : Value} (h : c.cell? ⟨g0, o0, none⟩ = some v0 ∧ c.cell? ⟨g1, o1, none⟩ = some v1 ∧ c.cell? ⟨g2, o2, none⟩ = some v2 ∧ c.cell? ⟨g3, o3, none⟩ = some v3 ∧ Below w.heap.size w c) (hb : Below c.heap.size c w1) : w1.cell? ⟨g0, o0, none⟩ = some v0 ∧ w1.cell? ⟨g1, o1, none⟩ = some v1 ∧ w1.cell? ⟨g2, o2, none⟩ = some v2 ∧ w1.cell? ⟨g3, o3, none⟩ = some v3 ∧ Below w.heap.size w w1 := by
  obtain ⟨h0, h1, h2, h3, hk⟩ := h
  exact ⟨cellK hb h0, cellK hb h1, cellK hb h2, cellK hb h3, hk.trans (hb.mono hk.size)⟩
theorem keepL8 {w c w1 : World} {t : TypeId} {g : Nat} {g0 o0 g1 o1 g2 o2 g3 o3 g4 o4 g5 o5 g6 o6 g7 o7 : Nat} {v0 v1 v2 v3 v4 v5 v6 v7 : Value} (h : c.cell? ⟨g0, o0, none⟩ = some v0 ∧ c.cell? ⟨g1, o1, none⟩ = some v1 ∧ c.cell? ⟨g2, o2, none⟩ = some v2 ∧ c.cell? ⟨g3, o3, none⟩ = some v3 ∧ c.cell? ⟨g4, o4, none⟩ = some v4 ∧ c.cell? ⟨g5, o5, none⟩ = some v5 ∧ c.cell? ⟨g6, o6, none⟩ = some v6 ∧ c.cell? ⟨g7, o7, none⟩ = some v7 ∧ Kq w t g c) (hb : Below c.heap.size c w1) : w1.cell? ⟨g0, o0, none⟩ = some v0 ∧ w1.cell? ⟨g1, o1, none⟩ = some v1 ∧ w1.cell? ⟨g2, o2, none⟩ = some v2 ∧ w1.cell? ⟨g3, o3, none⟩ = some v3 ∧ w1.cell? ⟨g4, o4, none⟩ = some v4 ∧ w1.cell? ⟨g5, o5, none⟩ = some v5 ∧ w1.cell? ⟨g6, o6, none⟩ = some v6 ∧ w1.cell? ⟨g7, o7, none⟩ = some v7 ∧ Kq w t g w1 := by
  obtain ⟨h0, h1, h2, h3, h4, h5, h6, h7, hk⟩ := h
  exact ⟨cellK hb h0, cellK hb h1, cellK hb h2, cellK hb h3, cellK hb h4, cellK hb h5, cellK hb h6, cellK hb h7, hk.below hb⟩
theorem keepQ8 {w c : World} {t : TypeId} {g : Nat} {g0 o0 g1 o1 g2 o2 g3 o3 g4 o4 g5 o5 g6 o6 g7 o7 : Nat} {v0 v1 v2 v3 v4 v5 v6 v7 : Value} (d0 : g0 ≠ g) (d1 : g1 ≠ g) (d2 : g2 ≠ g) (d3 : g3 ≠ g) (d4 : g4 ≠ g) (d5 : g5 ≠ g) (d6 : g6 ≠ g) (d7 : g7 ≠ g) (p q r s : Value) (hp : isB p) (hq : isS q) (hr : isB r) (hs : isS s) (h : c.cell? ⟨g0, o0, none⟩ = some v0 ∧ c.cell? ⟨g1, o1, none⟩ = some v1 ∧ c.cell? ⟨g2, o2, none⟩ = some v2 ∧ c.cell? ⟨g3, o3, none⟩ = some v3 ∧ c.cell? ⟨g4, o4, none⟩ = some v4 ∧ c.cell? ⟨g5, o5, none⟩ = some v5 ∧ c.cell? ⟨g6, o6, none⟩ = some v6 ∧ c.cell? ⟨g7, o7, none⟩ = some v7 ∧ Kq w t g c) : ((((c.setCell ⟨g, 0, none⟩ p).setCell ⟨g, 1, none⟩ q).setCell ⟨g, 2, none⟩ r).setCell ⟨g, 3, none⟩ s).cell? ⟨g0, o0, none⟩ = some v0 ∧ ((((c.setCell ⟨g, 0, none⟩ p).setCell ⟨g, 1, none⟩ q).setCell ⟨g, 2, none⟩ r).setCell ⟨g, 3, none⟩ s).cell? ⟨g1, o1, none⟩ = some v1 ∧ ((((c.setCell ⟨g, 0, none⟩ p).setCell ⟨g, 1, none⟩ q).setCell ⟨g, 2, none⟩ r).setCell ⟨g, 3, none⟩ s).cell? ⟨g2, o2, none⟩ = some v2 ∧ ((((c.setCell ⟨g, 0, none⟩ p).setCell ⟨g, 1, none⟩ q).setCell ⟨g, 2, none⟩ r).setCell ⟨g, 3, none⟩ s).cell? ⟨g3, o3, none⟩ = some v3 ∧ ((((c.setCell ⟨g, 0, none⟩ p).setCell ⟨g, 1, none⟩ q).setCell ⟨g, 2, none⟩ r).setCell ⟨g, 3, none⟩ s).cell? ⟨g4, o4, none⟩ = some v4 ∧ ((((c.setCell ⟨g, 0, none⟩ p).setCell ⟨g, 1, none⟩ q).setCell ⟨g, 2, none⟩ r).setCell ⟨g, 3, none⟩ s).cell? ⟨g5, o5, none⟩ = some v5 ∧ ((((c.setCell ⟨g, 0, none⟩ p).setCell ⟨g, 1, none⟩ q).setCell ⟨g, 2, none⟩ r).setCell ⟨g, 3, none⟩ s).cell? ⟨g6, o6, none⟩ = some v6 ∧ ((((c.setCell ⟨g, 0, none⟩ p).setCell ⟨g, 1, none⟩ q).setCell ⟨g, 2, none⟩ r).setCell ⟨g, 3, none⟩ s).cell? ⟨g7, o7, none⟩ = some v7 ∧ Kq w t g ((((c.setCell ⟨g, 0, none⟩ p).setCell ⟨g, 1, none⟩ q).setCell ⟨g, 2, none⟩ r).setCell ⟨g, 3, none⟩ s) := by
  obtain ⟨h0, h1, h2, h3, h4, h5, h6, h7, hk⟩ := h
  exact ⟨cell4F (x := ⟨g0, o0, none⟩) d0 h0, cell4F (x := ⟨g1, o1, none⟩) d1 h1, cell4F (x := ⟨g2, o2, none⟩) d2 h2, cell4F (x := ⟨g3, o3, none⟩) d3 h3, cell4F (x := ⟨g4, o4, none⟩) d4 h4, cell4F (x := ⟨g5, o5, none⟩) d5 h5, cell4F (x := ⟨g6, o6, none⟩) d6 h6, cell4F (x := ⟨g7, o7, none⟩) d7 h7, hk.put hp hq hr hs⟩
theorem keepZ8 {w c w1 : World} {g0 o0 g1 o1 g2 o2 g3 o3 g4 o4 g5 o5 g6 o6 g7 o7 : Nat} {v0 v1 v2 v3 v4 v5 v6 v7 : Value} (h : c.cell? ⟨g0, o0, none⟩ = some v0 ∧ c.cell? ⟨g1, o1, none⟩ = some v1 ∧ c.cell? ⟨g2, o2, none⟩ = some v2 ∧ c.cell? ⟨g3, o3, none⟩ = some v3 ∧ c.cell? ⟨g4, o4, none⟩ = some v4 ∧ c.cell? ⟨g5, o5, none⟩ = some v5 ∧ c.cell? ⟨g6, o6, none⟩ = some v6 ∧ c.cell? ⟨g7, o7, none⟩ = some v7 ∧ Below w.heap.size w c) (hb : Below c.heap.size c w1) : w1.cell? ⟨g0, o0, none⟩ = some v0 ∧ w1.cell? ⟨g1, o1, none⟩ = some v1 ∧ w1.cell? ⟨g2, o2, none⟩ = some v2 ∧ w1.cell? ⟨g3, o3, none⟩ = some v3 ∧ w1.cell? ⟨g4, o4, none⟩ = some v4 ∧ w1.cell? ⟨g5, o5, none⟩ = some v5 ∧ w1.cell? ⟨g6, o6, none⟩ = some v6 ∧ w1.cell? ⟨g7, o7, none⟩ = some v7 ∧ Below w.heap.size w w1 := by
  obtain ⟨h0, h1, h2, h3, h4, h5, h6, h7, hk⟩ := h
  exact ⟨cellK hb h0, cellK hb h1, cellK hb h2, cellK hb h3, cellK hb h4, cellK hb h5, cellK hb h6, cellK hb h7, hk.trans (hb.mono hk.size)⟩
theorem keepL12 {w c w1 : World} {t : TypeId} {g : Nat} {g0 o0 g1 o1 g2 o2 g3 o3 g4 o4 g5 o5 g6 o6 g7 o7 g8 o8 g9 o9 g10 o10 g11 o11 : Nat} {v0 v1 v2 v3 v4 v5 v6 v7 v8 v9 v10 v11 : Value} (h : c.cell? ⟨g0, o0, none⟩ = some v0 ∧ c.cell? ⟨g1, o1, none⟩ = some v1 ∧ c.cell? ⟨g2, o2, none⟩ = some v2 ∧ c.cell? ⟨g3, o3, none⟩ = some v3 ∧ c.cell? ⟨g4, o4, none⟩ = some v4 ∧ c.cell? ⟨g5, o5, none⟩ = some v5 ∧ c.cell? ⟨g6, o6, none⟩ = some v6 ∧ c.cell? ⟨g7, o7, none⟩ = some v7 ∧ c.cell? ⟨g8, o8, none⟩ = some v8 ∧ c.cell? ⟨g9, o9, none⟩ = some v9 ∧ c.cell? ⟨g10, o10, none⟩ = some v10 ∧ c.cell? ⟨g11, o11, none⟩ = some v11 ∧ Kq w t g c) (hb : Below c.heap.size c w1) : w1.cell? ⟨g0, o0, none⟩ = some v0 ∧ w1.cell? ⟨g1, o1, none⟩ = some v1 ∧ w1.cell? ⟨g2, o2, none⟩ = some v2 ∧ w1.cell? ⟨g3, o3, none⟩ = some v3 ∧ w1.cell? ⟨g4, o4, none⟩ = some v4 ∧ w1.cell? ⟨g5, o5, none⟩ = some v5 ∧ w1.cell? ⟨g6, o6, none⟩ = some v6 ∧ w1.cell? ⟨g7, o7, none⟩ = some v7 ∧ w1.cell? ⟨g8, o8, none⟩ = some v8 ∧ w1.cell? ⟨g9, o9, none⟩ = some v9 ∧ w1.cell? ⟨g10, o10, none⟩ = some v10 ∧ w1.cell? ⟨g11, o11, none⟩ = some v11 ∧ Kq w t g w1 := by
  obtain ⟨h0, h1, h2, h3, h4, h5, h6, h7, h8, h9, h10, h11, hk⟩ := h
  exact ⟨cellK hb h0, cellK hb h1, cellK hb h2, cellK hb h3, cellK hb h4, cellK hb h5, cellK hb h6, cellK hb h7, cellK hb h8, cellK hb h9, cellK hb h10, cellK hb h11, hk.below hb⟩
theorem keepQ12 {w c : World} {t : TypeId} {g : Nat} {g0 o0 g1 o1 g2 o2 g3 o3 g4 o4 g5 o5 g6 o6 g7 o7 g8 o8 g9 o9 g10 o10 g11 o11 : Nat} {v0 v1 v2 v3 v4 v5 v6 v7 v8 v9 v10 v11 : Value} (d0 : g0 ≠ g) (d1 : g1 ≠ g) (d2 : g2 ≠ g) (d3 : g3 ≠ g) (d4 : g4 ≠ g) (d5 : g5 ≠ g) (d6 : g6 ≠ g) (d7 : g7 ≠ g) (d8 : g8 ≠ g) (d9 : g9 ≠ g) (d10 : g10 ≠ g) (d11 : g11 ≠ g) (p q r s : Value) (hp : isB p) (hq : isS q) (hr : isB r) (hs : isS s) (h : c.cell? ⟨g0, o0, none⟩ = some v0 ∧ c.cell? ⟨g1, o1, none⟩ = some v1 ∧ c.cell? ⟨g2, o2, none⟩ = some v2 ∧ c.cell? ⟨g3, o3, none⟩ = some v3 ∧ c.cell? ⟨g4, o4, none⟩ = some v4 ∧ c.cell? ⟨g5, o5, none⟩ = some v5 ∧ c.cell? ⟨g6, o6, none⟩ = some v6 ∧ c.cell? ⟨g7, o7, none⟩ = some v7 ∧ c.cell? ⟨g8, o8, none⟩ = some v8 ∧ c.cell? ⟨g9, o9, none⟩ = some v9 ∧ c.cell? ⟨g10, o10, none⟩ = some v10 ∧ c.cell? ⟨g11, o11, none⟩ = some v11 ∧ Kq w t g c) : ((((c.setCell ⟨g, 0, none⟩ p).setCell ⟨g, 1, none⟩ q).setCell ⟨g, 2, none⟩ r).setCell ⟨g, 3, none⟩ s).cell? ⟨g0, o0, none⟩ = some v0 ∧ ((((c.setCell ⟨g, 0, none⟩ p).setCell ⟨g, 1, none⟩ q).setCell ⟨g, 2, none⟩ r).setCell ⟨g, 3, none⟩ s).cell? ⟨g1, o1, none⟩ = some v1 ∧ ((((c.setCell ⟨g, 0, none⟩ p).setCell ⟨g, 1, none⟩ q).setCell ⟨g, 2, none⟩ r).setCell ⟨g, 3, none⟩ s).cell? ⟨g2, o2, none⟩ = some v2 ∧ ((((c.setCell ⟨g, 0, none⟩ p).setCell ⟨g, 1, none⟩ q).setCell ⟨g, 2, none⟩ r).setCell ⟨g, 3, none⟩ s).cell? ⟨g3, o3, none⟩ = some v3 ∧ ((((c.setCell ⟨g, 0, none⟩ p).setCell ⟨g, 1, none⟩ q).setCell ⟨g, 2, none⟩ r).setCell ⟨g, 3, none⟩ s).cell? ⟨g4, o4, none⟩ = some v4 ∧ ((((c.setCell ⟨g, 0, none⟩ p).setCell ⟨g, 1, none⟩ q).setCell ⟨g, 2, none⟩ r).setCell ⟨g, 3, none⟩ s).cell? ⟨g5, o5, none⟩ = some v5 ∧ ((((c.setCell ⟨g, 0, none⟩ p).setCell ⟨g, 1, none⟩ q).setCell ⟨g, 2, none⟩ r).setCell ⟨g, 3, none⟩ s).cell? ⟨g6, o6, none⟩ = some v6 ∧ ((((c.setCell ⟨g, 0, none⟩ p).setCell ⟨g, 1, none⟩ q).setCell ⟨g, 2, none⟩ r).setCell ⟨g, 3, none⟩ s).cell? ⟨g7, o7, none⟩ = some v7 ∧ ((((c.setCell ⟨g, 0, none⟩ p).setCell ⟨g, 1, none⟩ q).setCell ⟨g, 2, none⟩ r).setCell ⟨g, 3, none⟩ s).cell? ⟨g8, o8, none⟩ = some v8 ∧ ((((c.setCell ⟨g, 0, none⟩ p).setCell ⟨g, 1, none⟩ q).setCell ⟨g, 2, none⟩ r).setCell ⟨g, 3, none⟩ s).cell? ⟨g9, o9, none⟩ = some v9 ∧ ((((c.setCell ⟨g, 0, none⟩ p).setCell ⟨g, 1, none⟩ q).setCell ⟨g, 2, none⟩ r).setCell ⟨g, 3, none⟩ s).cell? ⟨g10, o10, none⟩ = some v10 ∧ ((((c.setCell ⟨g, 0, none⟩ p).setCell ⟨g, 1, none⟩ q).setCell ⟨g, 2, none⟩ r).setCell ⟨g, 3, none⟩ s).cell? ⟨g11, o11, none⟩ = some v11 ∧ Kq w t g ((((c.setCell ⟨g, 0, none⟩ p).setCell ⟨g, 1, none⟩ q).setCell ⟨g, 2, none⟩ r).setCell ⟨g, 3, none⟩ s) := by
  obtain ⟨h0, h1, h2, h3, h4, h5, h6, h7, h8, h9, h10, h11, hk⟩ := h
  exact ⟨cell4F (x := ⟨g0, o0, none⟩) d0 h0, cell4F (x := ⟨g1, o1, none⟩) d1 h1, cell4F (x := ⟨g2, o2, none⟩) d2 h2, cell4F (x := ⟨g3, o3, none⟩) d3 h3, cell4F (x := ⟨g4, o4, none⟩) d4 h4, cell4F (x := ⟨g5, o5, none⟩) d5 h5, cell4F (x := ⟨g6, o6, none⟩) d6 h6, cell4F (x := ⟨g7, o7, none⟩) d7 h7, cell4F (x := ⟨g8, o8, none⟩) d8 h8, cell4F (x := ⟨g9, o9, none⟩) d9 h9, cell4F (x := ⟨g10, o10, none⟩) d10 h10, cell4F (x := ⟨g11, o11, none⟩) d11 h11, hk.put hp hq hr hs⟩
theorem keepZ12 {w c w1 : World} {g0 o0 g1 o1 g2 o2 g3 o3 g4 o4 g5 o5 g6 o6 g7 o7 g8 o8 g9 o9 g10 o10 g11 o11 : Nat} {v0 v1 v2 v3 v4 v5 v6 v7 v8 v9 v10 v11 : Value} (h : c.cell? ⟨g0, o0, none⟩ = some v0 ∧ c.cell? ⟨g1, o1, none⟩ = some v1 ∧ c.cell? ⟨g2, o2, none⟩ = some v2 ∧ c.cell? ⟨g3, o3, none⟩ = some v3 ∧ c.cell? ⟨g4, o4, none⟩ = some v4 ∧ c.cell? ⟨g5, o5, none⟩ = some v5 ∧ c.cell? ⟨g6, o6, none⟩ = some v6 ∧ c.cell? ⟨g7, o7, none⟩ = some v7 ∧ c.cell? ⟨g8, o8, none⟩ = some v8 ∧ c.cell? ⟨g9, o9, none⟩ = some v9 ∧ c.cell? ⟨g10, o10, none⟩ = some v10 ∧ c.cell? ⟨g11, o11, none⟩ = some v11 ∧ Below w.heap.size w c) (hb : Below c.heap.size c w1) : w1.cell? ⟨g0, o0, none⟩ = some v0 ∧ w1.cell? ⟨g1, o1, none⟩ = some v1 ∧ w1.cell? ⟨g2, o2, none⟩ = some v2 ∧ w1.cell? ⟨g3, o3, none⟩ = some v3 ∧ w1.cell? ⟨g4, o4, none⟩ = some v4 ∧ w1.cell? ⟨g5, o5, none⟩ = some v5 ∧ w1.cell? ⟨g6, o6, none⟩ = some v6 ∧ w1.cell? ⟨g7, o7, none⟩ = some v7 ∧ w1.cell? ⟨g8, o8, none⟩ = some v8 ∧ w1.cell? ⟨g9, o9, none⟩ = some v9 ∧ w1.cell? ⟨g10, o10, none⟩ = some v10 ∧ w1.cell? ⟨g11, o11, none⟩ = some v11 ∧ Below w.heap.size w w1 := by
  obtain ⟨h0, h1, h2, h3, h4, h5, h6, h7, h8, h9, h10, h11, hk⟩ := h
  exact ⟨cellK hb h0, cellK hb h1, cellK hb h2, cellK hb h3, cellK hb h4, cellK hb h5, cellK hb h6, cellK hb h7, cellK hb h8, cellK hb h9, cellK hb h10, cellK hb h11, hk.trans (hb.mono hk.size)⟩
end Go.Proofs.YthpibilefdmemaaDoor
