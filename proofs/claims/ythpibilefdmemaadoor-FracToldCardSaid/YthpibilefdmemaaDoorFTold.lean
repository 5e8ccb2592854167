/- The walk of the law FracTold. -/
import Derived.Test.YthpibilefdmemaaDoorFOdd
namespace Go.Proofs.YthpibilefdmemaaDoor
open Go.RowKit

theorem RFrV.fv {w : World} {v : Value} {q : Rat} (h : RFrV w v q.num (q.den : Int)) : RFracV w v q := h
theorem RFracV.later {c w' : World} {v : Value} {q : Rat} (hb : Below c.heap.size c w') (h : RFracV c v q) : RFracV w' v q := h.below hb (Nat.le_refl _)
theorem told_a {w w2 W0 : World} {p q : Rat} {en : Bool} {ea : Option Addr} {el ek : Nat} {em : Bool} {eb : Option Addr} {ei ej : Nat} {dn : Bool} {da : Option Addr} {dl dk : Nat} {dm : Bool} {db : Option Addr} {di dj : Nat} {xn : Bool} {xa : Option Addr} {xl xk : Nat} {xm : Bool} {xb : Option Addr} {xi xj : Nat} {yn : Bool} {ya : Option Addr} {yl yk : Nat} {ym : Bool} {yb : Option Addr} {yi yj : Nat} {g5 g6 : Nat} (h5 : Blk W0 g5 64 #[.bool false, .slice none 0 0, .bool false, .slice none 0 0]) (h6 : Blk W0 g6 64 #[.bool false, .slice none 0 0, .bool false, .slice none 0 0]) (hne : g5 ≠ g6) (hl5 : w2.heap.size ≤ g5) (hl6 : w2.heap.size ≤ g6) (ha : RFracV W0 (.agg #[.bool en, .slice ea el ek, .bool em, .slice eb ei ej]) p) (hb : RFracV W0 (.agg #[.bool dn, .slice da dl dk, .bool dm, .slice db di dj]) q) (hS : w2.cell? ⟨w.heap.size, 0, none⟩ = some (.bool xn) ∧ w2.cell? ⟨w.heap.size, 1, none⟩ = some (.slice xa xl xk) ∧ w2.cell? ⟨w.heap.size, 2, none⟩ = some (.bool xm) ∧ w2.cell? ⟨w.heap.size, 3, none⟩ = some (.slice xb xi xj) ∧ w2.cell? ⟨w.heap.size + 1, 0, none⟩ = some (.bool yn) ∧ w2.cell? ⟨w.heap.size + 1, 1, none⟩ = some (.slice ya yl yk) ∧ w2.cell? ⟨w.heap.size + 1, 2, none⟩ = some (.bool ym) ∧ w2.cell? ⟨w.heap.size + 1, 3, none⟩ = some (.slice yb yi yj) ∧ Below w.heap.size w w2) (hB : Below w2.heap.size w2 W0) :
    Blk ((((((((W0.setCell ⟨g5, 0, none⟩ (.bool en)).setCell ⟨g5, 1, none⟩ (.slice ea el ek)).setCell ⟨g5, 2, none⟩ (.bool em)).setCell ⟨g5, 3, none⟩ (.slice eb ei ej)).setCell ⟨g6, 0, none⟩ (.bool dn)).setCell ⟨g6, 1, none⟩ (.slice da dl dk)).setCell ⟨g6, 2, none⟩ (.bool dm)).setCell ⟨g6, 3, none⟩ (.slice db di dj)) g5 64 #[.bool en, .slice ea el ek, .bool em, .slice eb ei ej] ∧ Blk ((((((((W0.setCell ⟨g5, 0, none⟩ (.bool en)).setCell ⟨g5, 1, none⟩ (.slice ea el ek)).setCell ⟨g5, 2, none⟩ (.bool em)).setCell ⟨g5, 3, none⟩ (.slice eb ei ej)).setCell ⟨g6, 0, none⟩ (.bool dn)).setCell ⟨g6, 1, none⟩ (.slice da dl dk)).setCell ⟨g6, 2, none⟩ (.bool dm)).setCell ⟨g6, 3, none⟩ (.slice db di dj)) g6 64 #[.bool dn, .slice da dl dk, .bool dm, .slice db di dj] ∧ RFracV ((((((((W0.setCell ⟨g5, 0, none⟩ (.bool en)).setCell ⟨g5, 1, none⟩ (.slice ea el ek)).setCell ⟨g5, 2, none⟩ (.bool em)).setCell ⟨g5, 3, none⟩ (.slice eb ei ej)).setCell ⟨g6, 0, none⟩ (.bool dn)).setCell ⟨g6, 1, none⟩ (.slice da dl dk)).setCell ⟨g6, 2, none⟩ (.bool dm)).setCell ⟨g6, 3, none⟩ (.slice db di dj)) (.agg #[.bool en, .slice ea el ek, .bool em, .slice eb ei ej]) p ∧ RFracV ((((((((W0.setCell ⟨g5, 0, none⟩ (.bool en)).setCell ⟨g5, 1, none⟩ (.slice ea el ek)).setCell ⟨g5, 2, none⟩ (.bool em)).setCell ⟨g5, 3, none⟩ (.slice eb ei ej)).setCell ⟨g6, 0, none⟩ (.bool dn)).setCell ⟨g6, 1, none⟩ (.slice da dl dk)).setCell ⟨g6, 2, none⟩ (.bool dm)).setCell ⟨g6, 3, none⟩ (.slice db di dj)) (.agg #[.bool dn, .slice da dl dk, .bool dm, .slice db di dj]) q ∧ ((((((((W0.setCell ⟨g5, 0, none⟩ (.bool en)).setCell ⟨g5, 1, none⟩ (.slice ea el ek)).setCell ⟨g5, 2, none⟩ (.bool em)).setCell ⟨g5, 3, none⟩ (.slice eb ei ej)).setCell ⟨g6, 0, none⟩ (.bool dn)).setCell ⟨g6, 1, none⟩ (.slice da dl dk)).setCell ⟨g6, 2, none⟩ (.bool dm)).setCell ⟨g6, 3, none⟩ (.slice db di dj)).cell? ⟨w.heap.size, 0, none⟩ = some (.bool xn) ∧ ((((((((W0.setCell ⟨g5, 0, none⟩ (.bool en)).setCell ⟨g5, 1, none⟩ (.slice ea el ek)).setCell ⟨g5, 2, none⟩ (.bool em)).setCell ⟨g5, 3, none⟩ (.slice eb ei ej)).setCell ⟨g6, 0, none⟩ (.bool dn)).setCell ⟨g6, 1, none⟩ (.slice da dl dk)).setCell ⟨g6, 2, none⟩ (.bool dm)).setCell ⟨g6, 3, none⟩ (.slice db di dj)).cell? ⟨w.heap.size, 1, none⟩ = some (.slice xa xl xk) ∧ ((((((((W0.setCell ⟨g5, 0, none⟩ (.bool en)).setCell ⟨g5, 1, none⟩ (.slice ea el ek)).setCell ⟨g5, 2, none⟩ (.bool em)).setCell ⟨g5, 3, none⟩ (.slice eb ei ej)).setCell ⟨g6, 0, none⟩ (.bool dn)).setCell ⟨g6, 1, none⟩ (.slice da dl dk)).setCell ⟨g6, 2, none⟩ (.bool dm)).setCell ⟨g6, 3, none⟩ (.slice db di dj)).cell? ⟨w.heap.size, 2, none⟩ = some (.bool xm) ∧ ((((((((W0.setCell ⟨g5, 0, none⟩ (.bool en)).setCell ⟨g5, 1, none⟩ (.slice ea el ek)).setCell ⟨g5, 2, none⟩ (.bool em)).setCell ⟨g5, 3, none⟩ (.slice eb ei ej)).setCell ⟨g6, 0, none⟩ (.bool dn)).setCell ⟨g6, 1, none⟩ (.slice da dl dk)).setCell ⟨g6, 2, none⟩ (.bool dm)).setCell ⟨g6, 3, none⟩ (.slice db di dj)).cell? ⟨w.heap.size, 3, none⟩ = some (.slice xb xi xj) ∧ ((((((((W0.setCell ⟨g5, 0, none⟩ (.bool en)).setCell ⟨g5, 1, none⟩ (.slice ea el ek)).setCell ⟨g5, 2, none⟩ (.bool em)).setCell ⟨g5, 3, none⟩ (.slice eb ei ej)).setCell ⟨g6, 0, none⟩ (.bool dn)).setCell ⟨g6, 1, none⟩ (.slice da dl dk)).setCell ⟨g6, 2, none⟩ (.bool dm)).setCell ⟨g6, 3, none⟩ (.slice db di dj)).cell? ⟨w.heap.size + 1, 0, none⟩ = some (.bool yn) ∧ ((((((((W0.setCell ⟨g5, 0, none⟩ (.bool en)).setCell ⟨g5, 1, none⟩ (.slice ea el ek)).setCell ⟨g5, 2, none⟩ (.bool em)).setCell ⟨g5, 3, none⟩ (.slice eb ei ej)).setCell ⟨g6, 0, none⟩ (.bool dn)).setCell ⟨g6, 1, none⟩ (.slice da dl dk)).setCell ⟨g6, 2, none⟩ (.bool dm)).setCell ⟨g6, 3, none⟩ (.slice db di dj)).cell? ⟨w.heap.size + 1, 1, none⟩ = some (.slice ya yl yk) ∧ ((((((((W0.setCell ⟨g5, 0, none⟩ (.bool en)).setCell ⟨g5, 1, none⟩ (.slice ea el ek)).setCell ⟨g5, 2, none⟩ (.bool em)).setCell ⟨g5, 3, none⟩ (.slice eb ei ej)).setCell ⟨g6, 0, none⟩ (.bool dn)).setCell ⟨g6, 1, none⟩ (.slice da dl dk)).setCell ⟨g6, 2, none⟩ (.bool dm)).setCell ⟨g6, 3, none⟩ (.slice db di dj)).cell? ⟨w.heap.size + 1, 2, none⟩ = some (.bool ym) ∧ ((((((((W0.setCell ⟨g5, 0, none⟩ (.bool en)).setCell ⟨g5, 1, none⟩ (.slice ea el ek)).setCell ⟨g5, 2, none⟩ (.bool em)).setCell ⟨g5, 3, none⟩ (.slice eb ei ej)).setCell ⟨g6, 0, none⟩ (.bool dn)).setCell ⟨g6, 1, none⟩ (.slice da dl dk)).setCell ⟨g6, 2, none⟩ (.bool dm)).setCell ⟨g6, 3, none⟩ (.slice db di dj)).cell? ⟨w.heap.size + 1, 3, none⟩ = some (.slice yb yi yj) ∧ Below w.heap.size w ((((((((W0.setCell ⟨g5, 0, none⟩ (.bool en)).setCell ⟨g5, 1, none⟩ (.slice ea el ek)).setCell ⟨g5, 2, none⟩ (.bool em)).setCell ⟨g5, 3, none⟩ (.slice eb ei ej)).setCell ⟨g6, 0, none⟩ (.bool dn)).setCell ⟨g6, 1, none⟩ (.slice da dl dk)).setCell ⟨g6, 2, none⟩ (.bool dm)).setCell ⟨g6, 3, none⟩ (.slice db di dj)) := by
  have k5 := h5.four (.bool en) (.slice ea el ek) (.bool em) (.slice eb ei ej)
  have k6 : Blk ((((W0.setCell ⟨g5, 0, none⟩ (.bool en)).setCell ⟨g5, 1, none⟩ (.slice ea el ek)).setCell ⟨g5, 2, none⟩ (.bool em)).setCell ⟨g5, 3, none⟩ (.slice eb ei ej)) g6 64 #[.bool false, .slice none 0 0, .bool false, .slice none 0 0] := (((h6.far hne.symm _).far hne.symm _).far hne.symm _).far hne.symm _
  exact ⟨(((k5.far hne _).far hne _).far hne _).far hne _, k6.four _ _ _ _, RFrV.st4 (RFrV.st4 ha h5 _ _ _ _) k6 _ _ _ _, RFrV.st4 (RFrV.st4 hb h5 _ _ _ _) k6 _ _ _ _, keepZ8 hS (set4b (set4b hB hl5 _ _ _ _) hl6 _ _ _ _)⟩
theorem told_b {w w2 W0 : World} {p q : Rat} {en : Bool} {ea : Option Addr} {el ek : Nat} {em : Bool} {eb : Option Addr} {ei ej : Nat} {dn : Bool} {da : Option Addr} {dl dk : Nat} {dm : Bool} {db : Option Addr} {di dj : Nat} {xn : Bool} {xa : Option Addr} {xl xk : Nat} {xm : Bool} {xb : Option Addr} {xi xj : Nat} {yn : Bool} {ya : Option Addr} {yl yk : Nat} {ym : Bool} {yb : Option Addr} {yi yj : Nat} (ha : RFracV W0 (.agg #[.bool en, .slice ea el ek, .bool em, .slice eb ei ej]) p) (hb : RFracV W0 (.agg #[.bool dn, .slice da dl dk, .bool dm, .slice db di dj]) q) (hS : w2.cell? ⟨w.heap.size, 0, none⟩ = some (.bool xn) ∧ w2.cell? ⟨w.heap.size, 1, none⟩ = some (.slice xa xl xk) ∧ w2.cell? ⟨w.heap.size, 2, none⟩ = some (.bool xm) ∧ w2.cell? ⟨w.heap.size, 3, none⟩ = some (.slice xb xi xj) ∧ w2.cell? ⟨w.heap.size + 1, 0, none⟩ = some (.bool yn) ∧ w2.cell? ⟨w.heap.size + 1, 1, none⟩ = some (.slice ya yl yk) ∧ w2.cell? ⟨w.heap.size + 1, 2, none⟩ = some (.bool ym) ∧ w2.cell? ⟨w.heap.size + 1, 3, none⟩ = some (.slice yb yi yj) ∧ Below w.heap.size w w2) (hB : Below w2.heap.size w2 W0) :
    Blk ((W0.alloc (.cells #[.bool en, .slice ea el ek, .bool em, .slice eb ei ej] 64)).alloc (.cells #[.bool dn, .slice da dl dk, .bool dm, .slice db di dj] 64)) W0.heap.size 64 #[.bool en, .slice ea el ek, .bool em, .slice eb ei ej] ∧ Blk ((W0.alloc (.cells #[.bool en, .slice ea el ek, .bool em, .slice eb ei ej] 64)).alloc (.cells #[.bool dn, .slice da dl dk, .bool dm, .slice db di dj] 64)) (W0.heap.size + 1) 64 #[.bool dn, .slice da dl dk, .bool dm, .slice db di dj] ∧ RFracV ((W0.alloc (.cells #[.bool en, .slice ea el ek, .bool em, .slice eb ei ej] 64)).alloc (.cells #[.bool dn, .slice da dl dk, .bool dm, .slice db di dj] 64)) (.agg #[.bool en, .slice ea el ek, .bool em, .slice eb ei ej]) p ∧ RFracV ((W0.alloc (.cells #[.bool en, .slice ea el ek, .bool em, .slice eb ei ej] 64)).alloc (.cells #[.bool dn, .slice da dl dk, .bool dm, .slice db di dj] 64)) (.agg #[.bool dn, .slice da dl dk, .bool dm, .slice db di dj]) q ∧ ((W0.alloc (.cells #[.bool en, .slice ea el ek, .bool em, .slice eb ei ej] 64)).alloc (.cells #[.bool dn, .slice da dl dk, .bool dm, .slice db di dj] 64)).cell? ⟨w.heap.size, 0, none⟩ = some (.bool xn) ∧ ((W0.alloc (.cells #[.bool en, .slice ea el ek, .bool em, .slice eb ei ej] 64)).alloc (.cells #[.bool dn, .slice da dl dk, .bool dm, .slice db di dj] 64)).cell? ⟨w.heap.size, 1, none⟩ = some (.slice xa xl xk) ∧ ((W0.alloc (.cells #[.bool en, .slice ea el ek, .bool em, .slice eb ei ej] 64)).alloc (.cells #[.bool dn, .slice da dl dk, .bool dm, .slice db di dj] 64)).cell? ⟨w.heap.size, 2, none⟩ = some (.bool xm) ∧ ((W0.alloc (.cells #[.bool en, .slice ea el ek, .bool em, .slice eb ei ej] 64)).alloc (.cells #[.bool dn, .slice da dl dk, .bool dm, .slice db di dj] 64)).cell? ⟨w.heap.size, 3, none⟩ = some (.slice xb xi xj) ∧ ((W0.alloc (.cells #[.bool en, .slice ea el ek, .bool em, .slice eb ei ej] 64)).alloc (.cells #[.bool dn, .slice da dl dk, .bool dm, .slice db di dj] 64)).cell? ⟨w.heap.size + 1, 0, none⟩ = some (.bool yn) ∧ ((W0.alloc (.cells #[.bool en, .slice ea el ek, .bool em, .slice eb ei ej] 64)).alloc (.cells #[.bool dn, .slice da dl dk, .bool dm, .slice db di dj] 64)).cell? ⟨w.heap.size + 1, 1, none⟩ = some (.slice ya yl yk) ∧ ((W0.alloc (.cells #[.bool en, .slice ea el ek, .bool em, .slice eb ei ej] 64)).alloc (.cells #[.bool dn, .slice da dl dk, .bool dm, .slice db di dj] 64)).cell? ⟨w.heap.size + 1, 2, none⟩ = some (.bool ym) ∧ ((W0.alloc (.cells #[.bool en, .slice ea el ek, .bool em, .slice eb ei ej] 64)).alloc (.cells #[.bool dn, .slice da dl dk, .bool dm, .slice db di dj] 64)).cell? ⟨w.heap.size + 1, 3, none⟩ = some (.slice yb yi yj) ∧ Below w.heap.size w ((W0.alloc (.cells #[.bool en, .slice ea el ek, .bool em, .slice eb ei ej] 64)).alloc (.cells #[.bool dn, .slice da dl dk, .bool dm, .slice db di dj] 64)) :=
  ⟨(Blk.new W0 64 #[.bool en, .slice ea el ek, .bool em, .slice eb ei ej]).alloc _, Blk.new_at _ _ _ (by simp), RFracV.allocd (RFracV.allocd ha _) _, RFracV.allocd (RFracV.allocd hb _) _, keepZ8 hS ((hB.alloc hB.size _).alloc (Nat.le_trans hB.size (by simp)) _)⟩
theorem told_c {w w2 W0 : World} {p q : Rat} {en : Bool} {ea : Option Addr} {el ek : Nat} {em : Bool} {eb : Option Addr} {ei ej : Nat} {dn : Bool} {da : Option Addr} {dl dk : Nat} {dm : Bool} {db : Option Addr} {di dj : Nat} {xn : Bool} {xa : Option Addr} {xl xk : Nat} {xm : Bool} {xb : Option Addr} {xi xj : Nat} {yn : Bool} {ya : Option Addr} {yl yk : Nat} {ym : Bool} {yb : Option Addr} {yi yj : Nat} (ha : RFracV W0 (.agg #[.bool en, .slice ea el ek, .bool em, .slice eb ei ej]) p) (hb : RFracV W0 (.agg #[.bool dn, .slice da dl dk, .bool dm, .slice db di dj]) q) (hS : w2.cell? ⟨w.heap.size, 0, none⟩ = some (.bool xn) ∧ w2.cell? ⟨w.heap.size, 1, none⟩ = some (.slice xa xl xk) ∧ w2.cell? ⟨w.heap.size, 2, none⟩ = some (.bool xm) ∧ w2.cell? ⟨w.heap.size, 3, none⟩ = some (.slice xb xi xj) ∧ w2.cell? ⟨w.heap.size + 1, 0, none⟩ = some (.bool yn) ∧ w2.cell? ⟨w.heap.size + 1, 1, none⟩ = some (.slice ya yl yk) ∧ w2.cell? ⟨w.heap.size + 1, 2, none⟩ = some (.bool ym) ∧ w2.cell? ⟨w.heap.size + 1, 3, none⟩ = some (.slice yb yi yj) ∧ Below w.heap.size w w2) (hB : Below w2.heap.size w2 W0) :
    Blk ((W0.alloc (.cells #[.bool dn, .slice da dl dk, .bool dm, .slice db di dj] 64)).alloc (.cells #[.bool en, .slice ea el ek, .bool em, .slice eb ei ej] 64)) (W0.heap.size + 1) 64 #[.bool en, .slice ea el ek, .bool em, .slice eb ei ej] ∧ Blk ((W0.alloc (.cells #[.bool dn, .slice da dl dk, .bool dm, .slice db di dj] 64)).alloc (.cells #[.bool en, .slice ea el ek, .bool em, .slice eb ei ej] 64)) W0.heap.size 64 #[.bool dn, .slice da dl dk, .bool dm, .slice db di dj] ∧ RFracV ((W0.alloc (.cells #[.bool dn, .slice da dl dk, .bool dm, .slice db di dj] 64)).alloc (.cells #[.bool en, .slice ea el ek, .bool em, .slice eb ei ej] 64)) (.agg #[.bool en, .slice ea el ek, .bool em, .slice eb ei ej]) p ∧ RFracV ((W0.alloc (.cells #[.bool dn, .slice da dl dk, .bool dm, .slice db di dj] 64)).alloc (.cells #[.bool en, .slice ea el ek, .bool em, .slice eb ei ej] 64)) (.agg #[.bool dn, .slice da dl dk, .bool dm, .slice db di dj]) q ∧ ((W0.alloc (.cells #[.bool dn, .slice da dl dk, .bool dm, .slice db di dj] 64)).alloc (.cells #[.bool en, .slice ea el ek, .bool em, .slice eb ei ej] 64)).cell? ⟨w.heap.size, 0, none⟩ = some (.bool xn) ∧ ((W0.alloc (.cells #[.bool dn, .slice da dl dk, .bool dm, .slice db di dj] 64)).alloc (.cells #[.bool en, .slice ea el ek, .bool em, .slice eb ei ej] 64)).cell? ⟨w.heap.size, 1, none⟩ = some (.slice xa xl xk) ∧ ((W0.alloc (.cells #[.bool dn, .slice da dl dk, .bool dm, .slice db di dj] 64)).alloc (.cells #[.bool en, .slice ea el ek, .bool em, .slice eb ei ej] 64)).cell? ⟨w.heap.size, 2, none⟩ = some (.bool xm) ∧ ((W0.alloc (.cells #[.bool dn, .slice da dl dk, .bool dm, .slice db di dj] 64)).alloc (.cells #[.bool en, .slice ea el ek, .bool em, .slice eb ei ej] 64)).cell? ⟨w.heap.size, 3, none⟩ = some (.slice xb xi xj) ∧ ((W0.alloc (.cells #[.bool dn, .slice da dl dk, .bool dm, .slice db di dj] 64)).alloc (.cells #[.bool en, .slice ea el ek, .bool em, .slice eb ei ej] 64)).cell? ⟨w.heap.size + 1, 0, none⟩ = some (.bool yn) ∧ ((W0.alloc (.cells #[.bool dn, .slice da dl dk, .bool dm, .slice db di dj] 64)).alloc (.cells #[.bool en, .slice ea el ek, .bool em, .slice eb ei ej] 64)).cell? ⟨w.heap.size + 1, 1, none⟩ = some (.slice ya yl yk) ∧ ((W0.alloc (.cells #[.bool dn, .slice da dl dk, .bool dm, .slice db di dj] 64)).alloc (.cells #[.bool en, .slice ea el ek, .bool em, .slice eb ei ej] 64)).cell? ⟨w.heap.size + 1, 2, none⟩ = some (.bool ym) ∧ ((W0.alloc (.cells #[.bool dn, .slice da dl dk, .bool dm, .slice db di dj] 64)).alloc (.cells #[.bool en, .slice ea el ek, .bool em, .slice eb ei ej] 64)).cell? ⟨w.heap.size + 1, 3, none⟩ = some (.slice yb yi yj) ∧ Below w.heap.size w ((W0.alloc (.cells #[.bool dn, .slice da dl dk, .bool dm, .slice db di dj] 64)).alloc (.cells #[.bool en, .slice ea el ek, .bool em, .slice eb ei ej] 64)) :=
  ⟨Blk.new_at _ _ _ (by simp), (Blk.new W0 64 #[.bool dn, .slice da dl dk, .bool dm, .slice db di dj]).alloc _, RFracV.allocd (RFracV.allocd ha _) _, RFracV.allocd (RFracV.allocd hb _) _, keepZ8 hS ((hB.alloc hB.size _).alloc (Nat.le_trans hB.size (by simp)) _)⟩
theorem told_d {w w2 W0 : World} {p q : Rat} {en : Bool} {ea : Option Addr} {el ek : Nat} {em : Bool} {eb : Option Addr} {ei ej : Nat} {dn : Bool} {da : Option Addr} {dl dk : Nat} {dm : Bool} {db : Option Addr} {di dj : Nat} {xn : Bool} {xa : Option Addr} {xl xk : Nat} {xm : Bool} {xb : Option Addr} {xi xj : Nat} {yn : Bool} {ya : Option Addr} {yl yk : Nat} {ym : Bool} {yb : Option Addr} {yi yj : Nat} {g5 : Nat} (h5 : Blk W0 g5 64 #[.bool false, .slice none 0 0, .bool false, .slice none 0 0]) (hl5 : w2.heap.size ≤ g5) (ha : RFracV W0 (.agg #[.bool en, .slice ea el ek, .bool em, .slice eb ei ej]) p) (hb : RFracV W0 (.agg #[.bool dn, .slice da dl dk, .bool dm, .slice db di dj]) q) (hS : w2.cell? ⟨w.heap.size, 0, none⟩ = some (.bool xn) ∧ w2.cell? ⟨w.heap.size, 1, none⟩ = some (.slice xa xl xk) ∧ w2.cell? ⟨w.heap.size, 2, none⟩ = some (.bool xm) ∧ w2.cell? ⟨w.heap.size, 3, none⟩ = some (.slice xb xi xj) ∧ w2.cell? ⟨w.heap.size + 1, 0, none⟩ = some (.bool yn) ∧ w2.cell? ⟨w.heap.size + 1, 1, none⟩ = some (.slice ya yl yk) ∧ w2.cell? ⟨w.heap.size + 1, 2, none⟩ = some (.bool ym) ∧ w2.cell? ⟨w.heap.size + 1, 3, none⟩ = some (.slice yb yi yj) ∧ Below w.heap.size w w2) (hB : Below w2.heap.size w2 W0) :
    Blk (((((W0.setCell ⟨g5, 0, none⟩ (.bool en)).setCell ⟨g5, 1, none⟩ (.slice ea el ek)).setCell ⟨g5, 2, none⟩ (.bool em)).setCell ⟨g5, 3, none⟩ (.slice eb ei ej)).alloc (.cells #[.bool dn, .slice da dl dk, .bool dm, .slice db di dj] 64)) g5 64 #[.bool en, .slice ea el ek, .bool em, .slice eb ei ej] ∧ Blk (((((W0.setCell ⟨g5, 0, none⟩ (.bool en)).setCell ⟨g5, 1, none⟩ (.slice ea el ek)).setCell ⟨g5, 2, none⟩ (.bool em)).setCell ⟨g5, 3, none⟩ (.slice eb ei ej)).alloc (.cells #[.bool dn, .slice da dl dk, .bool dm, .slice db di dj] 64)) W0.heap.size 64 #[.bool dn, .slice da dl dk, .bool dm, .slice db di dj] ∧ RFracV (((((W0.setCell ⟨g5, 0, none⟩ (.bool en)).setCell ⟨g5, 1, none⟩ (.slice ea el ek)).setCell ⟨g5, 2, none⟩ (.bool em)).setCell ⟨g5, 3, none⟩ (.slice eb ei ej)).alloc (.cells #[.bool dn, .slice da dl dk, .bool dm, .slice db di dj] 64)) (.agg #[.bool en, .slice ea el ek, .bool em, .slice eb ei ej]) p ∧ RFracV (((((W0.setCell ⟨g5, 0, none⟩ (.bool en)).setCell ⟨g5, 1, none⟩ (.slice ea el ek)).setCell ⟨g5, 2, none⟩ (.bool em)).setCell ⟨g5, 3, none⟩ (.slice eb ei ej)).alloc (.cells #[.bool dn, .slice da dl dk, .bool dm, .slice db di dj] 64)) (.agg #[.bool dn, .slice da dl dk, .bool dm, .slice db di dj]) q ∧ (((((W0.setCell ⟨g5, 0, none⟩ (.bool en)).setCell ⟨g5, 1, none⟩ (.slice ea el ek)).setCell ⟨g5, 2, none⟩ (.bool em)).setCell ⟨g5, 3, none⟩ (.slice eb ei ej)).alloc (.cells #[.bool dn, .slice da dl dk, .bool dm, .slice db di dj] 64)).cell? ⟨w.heap.size, 0, none⟩ = some (.bool xn) ∧ (((((W0.setCell ⟨g5, 0, none⟩ (.bool en)).setCell ⟨g5, 1, none⟩ (.slice ea el ek)).setCell ⟨g5, 2, none⟩ (.bool em)).setCell ⟨g5, 3, none⟩ (.slice eb ei ej)).alloc (.cells #[.bool dn, .slice da dl dk, .bool dm, .slice db di dj] 64)).cell? ⟨w.heap.size, 1, none⟩ = some (.slice xa xl xk) ∧ (((((W0.setCell ⟨g5, 0, none⟩ (.bool en)).setCell ⟨g5, 1, none⟩ (.slice ea el ek)).setCell ⟨g5, 2, none⟩ (.bool em)).setCell ⟨g5, 3, none⟩ (.slice eb ei ej)).alloc (.cells #[.bool dn, .slice da dl dk, .bool dm, .slice db di dj] 64)).cell? ⟨w.heap.size, 2, none⟩ = some (.bool xm) ∧ (((((W0.setCell ⟨g5, 0, none⟩ (.bool en)).setCell ⟨g5, 1, none⟩ (.slice ea el ek)).setCell ⟨g5, 2, none⟩ (.bool em)).setCell ⟨g5, 3, none⟩ (.slice eb ei ej)).alloc (.cells #[.bool dn, .slice da dl dk, .bool dm, .slice db di dj] 64)).cell? ⟨w.heap.size, 3, none⟩ = some (.slice xb xi xj) ∧ (((((W0.setCell ⟨g5, 0, none⟩ (.bool en)).setCell ⟨g5, 1, none⟩ (.slice ea el ek)).setCell ⟨g5, 2, none⟩ (.bool em)).setCell ⟨g5, 3, none⟩ (.slice eb ei ej)).alloc (.cells #[.bool dn, .slice da dl dk, .bool dm, .slice db di dj] 64)).cell? ⟨w.heap.size + 1, 0, none⟩ = some (.bool yn) ∧ (((((W0.setCell ⟨g5, 0, none⟩ (.bool en)).setCell ⟨g5, 1, none⟩ (.slice ea el ek)).setCell ⟨g5, 2, none⟩ (.bool em)).setCell ⟨g5, 3, none⟩ (.slice eb ei ej)).alloc (.cells #[.bool dn, .slice da dl dk, .bool dm, .slice db di dj] 64)).cell? ⟨w.heap.size + 1, 1, none⟩ = some (.slice ya yl yk) ∧ (((((W0.setCell ⟨g5, 0, none⟩ (.bool en)).setCell ⟨g5, 1, none⟩ (.slice ea el ek)).setCell ⟨g5, 2, none⟩ (.bool em)).setCell ⟨g5, 3, none⟩ (.slice eb ei ej)).alloc (.cells #[.bool dn, .slice da dl dk, .bool dm, .slice db di dj] 64)).cell? ⟨w.heap.size + 1, 2, none⟩ = some (.bool ym) ∧ (((((W0.setCell ⟨g5, 0, none⟩ (.bool en)).setCell ⟨g5, 1, none⟩ (.slice ea el ek)).setCell ⟨g5, 2, none⟩ (.bool em)).setCell ⟨g5, 3, none⟩ (.slice eb ei ej)).alloc (.cells #[.bool dn, .slice da dl dk, .bool dm, .slice db di dj] 64)).cell? ⟨w.heap.size + 1, 3, none⟩ = some (.slice yb yi yj) ∧ Below w.heap.size w (((((W0.setCell ⟨g5, 0, none⟩ (.bool en)).setCell ⟨g5, 1, none⟩ (.slice ea el ek)).setCell ⟨g5, 2, none⟩ (.bool em)).setCell ⟨g5, 3, none⟩ (.slice eb ei ej)).alloc (.cells #[.bool dn, .slice da dl dk, .bool dm, .slice db di dj] 64)) :=
  ⟨(h5.four (.bool en) (.slice ea el ek) (.bool em) (.slice eb ei ej)).alloc _, Blk.new_at _ _ _ (by simp), RFracV.allocd (RFrV.st4 ha h5 _ _ _ _) _, RFracV.allocd (RFrV.st4 hb h5 _ _ _ _) _, keepZ8 hS ((set4b hB hl5 _ _ _ _).alloc (by simpa using hB.size) _)⟩
theorem told_e {w w2 W0 : World} {p q : Rat} {en : Bool} {ea : Option Addr} {el ek : Nat} {em : Bool} {eb : Option Addr} {ei ej : Nat} {dn : Bool} {da : Option Addr} {dl dk : Nat} {dm : Bool} {db : Option Addr} {di dj : Nat} {xn : Bool} {xa : Option Addr} {xl xk : Nat} {xm : Bool} {xb : Option Addr} {xi xj : Nat} {yn : Bool} {ya : Option Addr} {yl yk : Nat} {ym : Bool} {yb : Option Addr} {yi yj : Nat} {g6 : Nat} (h6 : Blk W0 g6 64 #[.bool false, .slice none 0 0, .bool false, .slice none 0 0]) (hl6 : w2.heap.size ≤ g6) (ha : RFracV W0 (.agg #[.bool en, .slice ea el ek, .bool em, .slice eb ei ej]) p) (hb : RFracV W0 (.agg #[.bool dn, .slice da dl dk, .bool dm, .slice db di dj]) q) (hS : w2.cell? ⟨w.heap.size, 0, none⟩ = some (.bool xn) ∧ w2.cell? ⟨w.heap.size, 1, none⟩ = some (.slice xa xl xk) ∧ w2.cell? ⟨w.heap.size, 2, none⟩ = some (.bool xm) ∧ w2.cell? ⟨w.heap.size, 3, none⟩ = some (.slice xb xi xj) ∧ w2.cell? ⟨w.heap.size + 1, 0, none⟩ = some (.bool yn) ∧ w2.cell? ⟨w.heap.size + 1, 1, none⟩ = some (.slice ya yl yk) ∧ w2.cell? ⟨w.heap.size + 1, 2, none⟩ = some (.bool ym) ∧ w2.cell? ⟨w.heap.size + 1, 3, none⟩ = some (.slice yb yi yj) ∧ Below w.heap.size w w2) (hB : Below w2.heap.size w2 W0) :
    Blk (((((W0.setCell ⟨g6, 0, none⟩ (.bool dn)).setCell ⟨g6, 1, none⟩ (.slice da dl dk)).setCell ⟨g6, 2, none⟩ (.bool dm)).setCell ⟨g6, 3, none⟩ (.slice db di dj)).alloc (.cells #[.bool en, .slice ea el ek, .bool em, .slice eb ei ej] 64)) W0.heap.size 64 #[.bool en, .slice ea el ek, .bool em, .slice eb ei ej] ∧ Blk (((((W0.setCell ⟨g6, 0, none⟩ (.bool dn)).setCell ⟨g6, 1, none⟩ (.slice da dl dk)).setCell ⟨g6, 2, none⟩ (.bool dm)).setCell ⟨g6, 3, none⟩ (.slice db di dj)).alloc (.cells #[.bool en, .slice ea el ek, .bool em, .slice eb ei ej] 64)) g6 64 #[.bool dn, .slice da dl dk, .bool dm, .slice db di dj] ∧ RFracV (((((W0.setCell ⟨g6, 0, none⟩ (.bool dn)).setCell ⟨g6, 1, none⟩ (.slice da dl dk)).setCell ⟨g6, 2, none⟩ (.bool dm)).setCell ⟨g6, 3, none⟩ (.slice db di dj)).alloc (.cells #[.bool en, .slice ea el ek, .bool em, .slice eb ei ej] 64)) (.agg #[.bool en, .slice ea el ek, .bool em, .slice eb ei ej]) p ∧ RFracV (((((W0.setCell ⟨g6, 0, none⟩ (.bool dn)).setCell ⟨g6, 1, none⟩ (.slice da dl dk)).setCell ⟨g6, 2, none⟩ (.bool dm)).setCell ⟨g6, 3, none⟩ (.slice db di dj)).alloc (.cells #[.bool en, .slice ea el ek, .bool em, .slice eb ei ej] 64)) (.agg #[.bool dn, .slice da dl dk, .bool dm, .slice db di dj]) q ∧ (((((W0.setCell ⟨g6, 0, none⟩ (.bool dn)).setCell ⟨g6, 1, none⟩ (.slice da dl dk)).setCell ⟨g6, 2, none⟩ (.bool dm)).setCell ⟨g6, 3, none⟩ (.slice db di dj)).alloc (.cells #[.bool en, .slice ea el ek, .bool em, .slice eb ei ej] 64)).cell? ⟨w.heap.size, 0, none⟩ = some (.bool xn) ∧ (((((W0.setCell ⟨g6, 0, none⟩ (.bool dn)).setCell ⟨g6, 1, none⟩ (.slice da dl dk)).setCell ⟨g6, 2, none⟩ (.bool dm)).setCell ⟨g6, 3, none⟩ (.slice db di dj)).alloc (.cells #[.bool en, .slice ea el ek, .bool em, .slice eb ei ej] 64)).cell? ⟨w.heap.size, 1, none⟩ = some (.slice xa xl xk) ∧ (((((W0.setCell ⟨g6, 0, none⟩ (.bool dn)).setCell ⟨g6, 1, none⟩ (.slice da dl dk)).setCell ⟨g6, 2, none⟩ (.bool dm)).setCell ⟨g6, 3, none⟩ (.slice db di dj)).alloc (.cells #[.bool en, .slice ea el ek, .bool em, .slice eb ei ej] 64)).cell? ⟨w.heap.size, 2, none⟩ = some (.bool xm) ∧ (((((W0.setCell ⟨g6, 0, none⟩ (.bool dn)).setCell ⟨g6, 1, none⟩ (.slice da dl dk)).setCell ⟨g6, 2, none⟩ (.bool dm)).setCell ⟨g6, 3, none⟩ (.slice db di dj)).alloc (.cells #[.bool en, .slice ea el ek, .bool em, .slice eb ei ej] 64)).cell? ⟨w.heap.size, 3, none⟩ = some (.slice xb xi xj) ∧ (((((W0.setCell ⟨g6, 0, none⟩ (.bool dn)).setCell ⟨g6, 1, none⟩ (.slice da dl dk)).setCell ⟨g6, 2, none⟩ (.bool dm)).setCell ⟨g6, 3, none⟩ (.slice db di dj)).alloc (.cells #[.bool en, .slice ea el ek, .bool em, .slice eb ei ej] 64)).cell? ⟨w.heap.size + 1, 0, none⟩ = some (.bool yn) ∧ (((((W0.setCell ⟨g6, 0, none⟩ (.bool dn)).setCell ⟨g6, 1, none⟩ (.slice da dl dk)).setCell ⟨g6, 2, none⟩ (.bool dm)).setCell ⟨g6, 3, none⟩ (.slice db di dj)).alloc (.cells #[.bool en, .slice ea el ek, .bool em, .slice eb ei ej] 64)).cell? ⟨w.heap.size + 1, 1, none⟩ = some (.slice ya yl yk) ∧ (((((W0.setCell ⟨g6, 0, none⟩ (.bool dn)).setCell ⟨g6, 1, none⟩ (.slice da dl dk)).setCell ⟨g6, 2, none⟩ (.bool dm)).setCell ⟨g6, 3, none⟩ (.slice db di dj)).alloc (.cells #[.bool en, .slice ea el ek, .bool em, .slice eb ei ej] 64)).cell? ⟨w.heap.size + 1, 2, none⟩ = some (.bool ym) ∧ (((((W0.setCell ⟨g6, 0, none⟩ (.bool dn)).setCell ⟨g6, 1, none⟩ (.slice da dl dk)).setCell ⟨g6, 2, none⟩ (.bool dm)).setCell ⟨g6, 3, none⟩ (.slice db di dj)).alloc (.cells #[.bool en, .slice ea el ek, .bool em, .slice eb ei ej] 64)).cell? ⟨w.heap.size + 1, 3, none⟩ = some (.slice yb yi yj) ∧ Below w.heap.size w (((((W0.setCell ⟨g6, 0, none⟩ (.bool dn)).setCell ⟨g6, 1, none⟩ (.slice da dl dk)).setCell ⟨g6, 2, none⟩ (.bool dm)).setCell ⟨g6, 3, none⟩ (.slice db di dj)).alloc (.cells #[.bool en, .slice ea el ek, .bool em, .slice eb ei ej] 64)) :=
  ⟨Blk.new_at _ _ _ (by simp), (h6.four (.bool dn) (.slice da dl dk) (.bool dm) (.slice db di dj)).alloc _, RFracV.allocd (RFrV.st4 ha h6 _ _ _ _) _, RFracV.allocd (RFrV.st4 hb h6 _ _ _ _) _, keepZ8 hS ((set4b hB hl6 _ _ _ _).alloc (by simpa using hB.size) _)⟩

set_option maxRecDepth 100000 in
set_option maxHeartbeats 6400000 in
theorem ftold_walk (x y : RFr) (w : World) (hx : RFrOk w x) (hy : RFrOk w y) (ht : Tab w) :
    Calls Tryd.prog 9 #[x.val, y.val] w fun e w' => e = .returned (.bool true) ∧ Below w.heap.size w w' := by
  obtain ⟨W, hW⟩ : ∃ W, ((w.alloc (.cells #[.bool x.up.neg, .slice x.up.at_ x.up.ds.length x.up.cap, .bool x.dn.neg, .slice x.dn.at_ x.dn.ds.length x.dn.cap] 58)).alloc (.cells #[.bool y.up.neg, .slice y.up.at_ y.up.ds.length y.up.cap, .bool y.dn.neg, .slice y.dn.at_ y.dn.ds.length y.dn.cap] 58)) = W := ⟨_, rfl⟩
  have bx : Blk W w.heap.size 58 #[.bool x.up.neg, .slice x.up.at_ x.up.ds.length x.up.cap, .bool x.dn.neg, .slice x.dn.at_ x.dn.ds.length x.dn.cap] := by rw [← hW]; exact (Blk.new w _ _).alloc _
  have by_ : Blk W (w.heap.size + 1) 58 #[.bool y.up.neg, .slice y.up.at_ y.up.ds.length y.up.cap, .bool y.dn.neg, .slice y.dn.at_ y.dn.ds.length y.dn.cap] := by rw [← hW]; exact Blk.new_at _ _ _ (by simp)
  have sb : Below w.heap.size w W := by rw [← hW]; exact ((Below.refl w.heap.size w).alloc (Nat.le_refl _) _).alloc (by simp) _
  unfold RFr.val
  go_enter Tryd.func9, Tryd.ntmps9
  go_wp2_with fail
  refine (fspeaks_any W (ht.atBelow sb (Nat.le_refl _))).mono ?_
  rintro e w1 ⟨rfl, hb1⟩
  replace bx := bx.below hb1 bx.lt
  replace by_ := by_.below hb1 by_.lt
  replace sb := sb.trans (hb1.mono sb.size)
  clear hb1
  obtain ⟨cx0, cx1, cx2, cx3, -⟩ := bx.c4
  obtain ⟨cy0, cy1, cy2, cy3, -⟩ := by_.c4
  go_wp2_with fail
  refine (fodd2 x y w1 (hx.below sb (Nat.le_refl _)) (hy.below sb (Nat.le_refl _))).mono ?_
  rintro e w2 ⟨o, rfl, hb2, hodd⟩
  replace bx := bx.below hb2 bx.lt
  replace by_ := by_.below hb2 by_.lt
  replace sb := sb.trans (hb2.mono sb.size)
  cases o with
  | true =>
    clear cx0 cx1 cx2 cx3 cy0 cy1 cy2 cy3
    go_wp2_with fail
    go_ret
    exact ⟨rfl, sb⟩
  | false =>
    obtain ⟨gx, gy⟩ := hodd rfl
    obtain ⟨p, Hx, Lx⟩ := hx.frac gx
    obtain ⟨q, Hy, Ly⟩ := hy.frac gy
    clear cx0 cx1 cx2 cx3 cy0 cy1 cy2 cy3 gx gy hodd hx hy hb2 hW
    obtain ⟨⟨xn, xa, xk, xds⟩, ⟨xm, xb, xj, xes⟩⟩ := x
    obtain ⟨⟨yn, ya, yk, yds⟩, ⟨ym, yb, yj, yes⟩⟩ := y
    unfold RFr.val at Hx Hy
    simp only at Hx Hy bx by_ ⊢
    generalize xds.length = xl at *
    generalize xes.length = xi at *
    generalize yds.length = yl at *
    generalize yes.length = yi at *
    obtain ⟨cx0, cx1, cx2, cx3, -⟩ := bx.c4
    obtain ⟨cy0, cy1, cy2, cy3, -⟩ := by_.c4
    clear bx by_
    have zx := Lx.z (by decide)
    have zy := Ly.z (by decide)
    have rx := Lx.r (by decide)
    have ry := Ly.r (by decide)
    have tx20 : Qn 20 p := Lx.mono (by decide)
    have HD : Hid (Qz (p + q) ∧ Qz (p * q) ∧ Qz (p / q) ∧ Qz (-p)) := hide ⟨(Lx.add Ly).z (by decide), (Lx.mul Ly).z (by decide), (Lx.div Ly).z (by decide), Lx.neg.z (by decide)⟩
    have HL := hide (Qn.dl (Lx.add Ly) (by decide))
    have HM := hide (Qn.dl (Lx.mul Ly) (by decide))
    have HV := hide (Qn.dl (Lx.div Ly) (by decide))
    have HN := hide (Qn.dl Lx.neg (by decide))
    have lx1 : len p.num ≤ 1000000000 := Nat.le_trans Lx.1 (by decide)
    have lx2 : len (und p) ≤ 1000000000 := Nat.le_trans (len_und Lx) (by decide)
    have ly1 : len q.num ≤ 1000000000 := Nat.le_trans Ly.1 (by decide)
    have ly2 : len (und q) ≤ 1000000000 := Nat.le_trans (len_und Ly) (by decide)
    have sfl : Sm p.floor := by
      rw [Rat.floor_def]
      exact Nat.le_trans (len_le (div_small _ _)) (Nat.le_trans Lx.1 (by decide))
    have dfl : dlen p.floor ≤ 100000000000 := by
      rw [Rat.floor_def]
      exact (dm_len lx1).le (div_small _ _)
    clear Lx Ly
    have hS1 : w2.cell? ⟨w.heap.size, 0, none⟩ = some (.bool xn) ∧ w2.cell? ⟨w.heap.size, 1, none⟩ = some (.slice xa xl xk) ∧ w2.cell? ⟨w.heap.size, 2, none⟩ = some (.bool xm) ∧ w2.cell? ⟨w.heap.size, 3, none⟩ = some (.slice xb xi xj) ∧ w2.cell? ⟨w.heap.size + 1, 0, none⟩ = some (.bool yn) ∧ w2.cell? ⟨w.heap.size + 1, 1, none⟩ = some (.slice ya yl yk) ∧ w2.cell? ⟨w.heap.size + 1, 2, none⟩ = some (.bool ym) ∧ w2.cell? ⟨w.heap.size + 1, 3, none⟩ = some (.slice yb yi yj) ∧ Below w.heap.size w w2 := ⟨cx0, cx1, cx2, cx3, cy0, cy1, cy2, cy3, sb⟩
    have hWs := sb.size
    go_upto_region 5 with (fail)
    go_cut [5, 6] from 17 to 20 (fun v5 v6 wc => ∃ g5 g6 en ea el ek em eb ei ej dn da dl dk dm db di dj, v5 = .pointer (some ⟨g5, 0, none⟩) ∧ v6 = .pointer (some ⟨g6, 0, none⟩) ∧ Blk wc g5 64 #[.bool en, .slice ea el ek, .bool em, .slice eb ei ej] ∧ Blk wc g6 64 #[.bool dn, .slice da dl dk, .bool dm, .slice db di dj] ∧ RFracV wc (.agg #[.bool en, .slice ea el ek, .bool em, .slice eb ei ej]) p ∧ RFracV wc (.agg #[.bool dn, .slice da dl dk, .bool dm, .slice db di dj]) q ∧ wc.cell? ⟨w.heap.size, 0, none⟩ = some (.bool xn) ∧ wc.cell? ⟨w.heap.size, 1, none⟩ = some (.slice xa xl xk) ∧ wc.cell? ⟨w.heap.size, 2, none⟩ = some (.bool xm) ∧ wc.cell? ⟨w.heap.size, 3, none⟩ = some (.slice xb xi xj) ∧ wc.cell? ⟨w.heap.size + 1, 0, none⟩ = some (.bool yn) ∧ wc.cell? ⟨w.heap.size + 1, 1, none⟩ = some (.slice ya yl yk) ∧ wc.cell? ⟨w.heap.size + 1, 2, none⟩ = some (.bool ym) ∧ wc.cell? ⟨w.heap.size + 1, 3, none⟩ = some (.slice yb yi yj) ∧ Below w.heap.size w wc)
    case first =>
      go_region_held3 (fun w' => w'.cell? ⟨w.heap.size, 0, none⟩ = some (.bool xn) ∧ w'.cell? ⟨w.heap.size, 1, none⟩ = some (.slice xa xl xk) ∧ w'.cell? ⟨w.heap.size, 2, none⟩ = some (.bool xm) ∧ w'.cell? ⟨w.heap.size, 3, none⟩ = some (.slice xb xi xj) ∧ w'.cell? ⟨w.heap.size + 1, 0, none⟩ = some (.bool yn) ∧ w'.cell? ⟨w.heap.size + 1, 1, none⟩ = some (.slice ya yl yk) ∧ w'.cell? ⟨w.heap.size + 1, 2, none⟩ = some (.bool ym) ∧ w'.cell? ⟨w.heap.size + 1, 3, none⟩ = some (.slice yb yi yj) ∧ Below w.heap.size w w')
        (exact keepZ8 hS1 (by repeat (first | with_reducible exact Below.refl _ _ | with_reducible refine bl_drew ?_ | with_reducible refine bl_alloc ?_ _ | with_reducible refine bl_set ?_ (by omega) _ _ | with_reducible refine bl_call ?_ (by with_reducible assumption))))
        (first
          | (go_at_call_of 50 (Value.agg #[.bool xn, .slice xa xl xk, .bool xm, .slice xb xi xj]); (with_reducible refine (ROf2_any _ (Hx.below (by go_split_ands; assumption) (Nat.le_refl _)).fr lx1 lx2).mono ?_); rintro e wN ⟨r, rfl, hr, hb1⟩; rw [ben_und] at hr; replace hr := RFrV.fv hr; obtain ⟨en, ea, el, ek, em, eb, ei, ej, rfl, -, -⟩ := RFracV.parts hr; have hs1 := hb1.size; (try simp only [World.size_drew] at hs1); (try simp only [World.size_alloc] at hs1); (first | with_reducible replace hA := Blk.later hb1 hA | with_reducible replace hA := Blk.later hb1 (Blk.alloc hA _) | with_reducible replace hA := Blk.later hb1 (Blk.alloc (Blk.alloc hA _) _) | skip); (first | with_reducible replace hB := Blk.later hb1 hB | with_reducible replace hB := Blk.later hb1 (Blk.alloc hB _) | with_reducible replace hB := Blk.later hb1 (Blk.alloc (Blk.alloc hB _) _) | skip); (first | (have _t := hA; first | (have hB := Blk.later hb1 (Blk.new _ _ _)) | skip) | (have hA := Blk.later hb1 (Blk.alloc (Blk.new _ _ _) _); have hB := Blk.later hb1 (Blk.new _ _ _)) | (have hA := Blk.later hb1 (Blk.drew (Blk.alloc (Blk.new _ _ _) _)); have hB := Blk.later hb1 (Blk.drew (Blk.new _ _ _))) | (have hA := Blk.later hb1 (Blk.new _ _ _)) | (have hA := Blk.later hb1 (Blk.drew (Blk.new _ _ _))) | skip); (try (try simp only [World.size_alloc] at hA); obtain ⟨khA0, khA1, khA2, khA3, khAf⟩ := hA.c4; have khA4 := khAf 0; have khA5 := khAf 1; have khA6 := khAf 2; have khA7 := khAf 3; have khAl := hA.lt; clear khAf); (try (try simp only [World.size_alloc] at hB); obtain ⟨khB0, khB1, khB2, khB3, khBf⟩ := hB.c4; have khB4 := khBf 0; have khB5 := khBf 1; have khB6 := khBf 2; have khB7 := khBf 3; have khBl := hB.lt; clear khBf))
          | (go_at_call_of 50 (Value.agg #[.bool yn, .slice ya yl yk, .bool ym, .slice yb yi yj]); (with_reducible refine (ROf2_any _ (Hy.below (by go_split_ands; assumption) (Nat.le_refl _)).fr ly1 ly2).mono ?_); rintro e wN ⟨r', rfl, hr', hb1⟩; rw [ben_und] at hr'; replace hr' := RFrV.fv hr'; obtain ⟨dn, da, dl, dk, dm, db, di, dj, rfl, -, -⟩ := RFracV.parts hr'; have hs1 := hb1.size; (try simp only [World.size_drew] at hs1); (try simp only [World.size_alloc] at hs1); (first | with_reducible replace hA := Blk.later hb1 hA | with_reducible replace hA := Blk.later hb1 (Blk.alloc hA _) | with_reducible replace hA := Blk.later hb1 (Blk.alloc (Blk.alloc hA _) _) | skip); (first | with_reducible replace hB := Blk.later hb1 hB | with_reducible replace hB := Blk.later hb1 (Blk.alloc hB _) | with_reducible replace hB := Blk.later hb1 (Blk.alloc (Blk.alloc hB _) _) | skip); (first | (have _t := hA; first | (have hB := Blk.later hb1 (Blk.new _ _ _)) | skip) | (have hA := Blk.later hb1 (Blk.alloc (Blk.new _ _ _) _); have hB := Blk.later hb1 (Blk.new _ _ _)) | (have hA := Blk.later hb1 (Blk.drew (Blk.alloc (Blk.new _ _ _) _)); have hB := Blk.later hb1 (Blk.drew (Blk.new _ _ _))) | (have hA := Blk.later hb1 (Blk.new _ _ _)) | (have hA := Blk.later hb1 (Blk.drew (Blk.new _ _ _))) | skip); (try (try simp only [World.size_alloc] at hA); obtain ⟨khA0, khA1, khA2, khA3, khAf⟩ := hA.c4; have khA4 := khAf 0; have khA5 := khAf 1; have khA6 := khAf 2; have khA7 := khAf 3; have khAl := hA.lt; clear khAf); (try (try simp only [World.size_alloc] at hB); obtain ⟨khB0, khB1, khB2, khB3, khBf⟩ := hB.c4; have khB4 := khBf 0; have khB5 := khBf 1; have khB6 := khBf 2; have khB7 := khBf 3; have khBl := hB.lt; clear khBf)))
      all_goals
        go_wp2_with fail
        go_meet
        refine ⟨_, _, en, ea, el, ek, em, eb, ei, ej, dn, da, dl, dk, dm, db, di, dj, rfl, rfl, ?_⟩
        first
          | (with_reducible refine told_a (w2 := w2) ?_ ?_ ?_ ?_ ?_ ?_ ?_ hS1 ?_)
          | (with_reducible refine told_b (w2 := w2) ?_ ?_ hS1 ?_)
          | (with_reducible refine told_c (w2 := w2) ?_ ?_ hS1 ?_)
          | (with_reducible refine told_d (w2 := w2) ?_ ?_ ?_ ?_ hS1 ?_)
          | (with_reducible refine told_e (w2 := w2) ?_ ?_ ?_ ?_ hS1 ?_)
        all_goals first
          | (with_reducible assumption)
          | omega
          | ((repeat (first | with_reducible assumption | with_reducible refine RFracV.drewd ?_ | with_reducible refine RFracV.allocd ?_ _ | with_reducible refine RFracV.later (by with_reducible assumption) ?_)); done)
          | ((repeat (first | with_reducible exact Below.refl _ _ | with_reducible refine bl_drew ?_ | with_reducible refine bl_alloc ?_ _ | with_reducible refine bl_set ?_ (by omega) _ _ | with_reducible refine bl_call ?_ (by with_reducible assumption))); done)
    case rest =>
      obtain ⟨g5, g6, en, ea, el, ek, em, eb, ei, ej, dn, da, dl, dk, dm, db, di, dj, rfl, rfl, hBa, hBb, ha, hb, hS⟩ := hcut
      clear hS1 cx0 cx1 cx2 cx3 cy0 cy1 cy2 cy3 hWs sb
      rename_i wc
      obtain ⟨cx0, cx1, cx2, cx3, cy0, cy1, cy2, cy3, sb⟩ := hS
      go_wp2_with fail
      refine (FFloor_any _ (Hx.below sb (Nat.le_refl _)) zx).mono ?_
      rintro e w8 ⟨u, rfl, hu, hb8⟩
      obtain ⟨un, ua, ul, uk, rfl⟩ := hu.parts
      obtain ⟨cx0, cx1, cx2, cx3, cy0, cy1, cy2, cy3, sb⟩ := keepZ8 ⟨cx0, cx1, cx2, cx3, cy0, cy1, cy2, cy3, sb⟩ hb8
      replace hBa := hBa.below hb8 hBa.lt
      replace hBb := hBb.below hb8 hBb.lt
      replace ha := ha.below hb8 (Nat.le_refl _)
      replace hb := hb.below hb8 (Nat.le_refl _)
      clear hb8
      obtain ⟨w9, hw9⟩ : ∃ w9, w8.alloc (.cells #[.bool un, .slice ua ul uk] 24) = w9 := ⟨_, rfl⟩
      have hBu : Blk w9 w8.heap.size 24 #[.bool un, .slice ua ul uk] := by rw [← hw9]; exact Blk.new _ _ _
      have hbw9 : Below w8.heap.size w8 w9 := by rw [← hw9]; exact (Below.refl _ _).alloc (Nat.le_refl _) _
      replace hu := hu.below hbw9 (Nat.le_refl _)
      obtain ⟨cx0, cx1, cx2, cx3, cy0, cy1, cy2, cy3, sb⟩ := keepZ8 ⟨cx0, cx1, cx2, cx3, cy0, cy1, cy2, cy3, sb⟩ hbw9
      replace hBa := hBa.below hbw9 hBa.lt
      replace hBb := hBb.below hbw9 hBb.lt
      replace ha := ha.below hbw9 (Nat.le_refl _)
      replace hb := hb.below hbw9 (Nat.le_refl _)
      clear hbw9
      have HW := hide hw9
      clear hw9
      go_upto_region 7 with (fail)
      rw [HW.out]
      clear HW
      generalize w8.heap.size = g9 at hBu ⊢
      obtain ⟨s0, s1, s2, s3, -⟩ := hBa.c4
      go_wp2_with fail
      refine (RFloor2_any _ ha rx).mono ?_
      rintro e w10 ⟨v, rfl, hv, hb10⟩
      obtain ⟨vn, va, vl, vk, rfl⟩ := hv.parts
      clear s0 s1 s2 s3
      obtain ⟨cx0, cx1, cx2, cx3, cy0, cy1, cy2, cy3, sb⟩ := keepZ8 ⟨cx0, cx1, cx2, cx3, cy0, cy1, cy2, cy3, sb⟩ hb10
      replace hBa := hBa.below hb10 hBa.lt
      replace hBb := hBb.below hb10 hBb.lt
      replace hBu := hBu.below hb10 hBu.lt
      replace ha := ha.below hb10 (Nat.le_refl _)
      replace hb := hb.below hb10 (Nat.le_refl _)
      replace hu := hu.below hb10 (Nat.le_refl _)
      clear hb10
      obtain ⟨w11, hw11⟩ : ∃ w11, w10.alloc (.cells #[.bool vn, .slice va vl vk] 30) = w11 := ⟨_, rfl⟩
      have hBv : Blk w11 w10.heap.size 30 #[.bool vn, .slice va vl vk] := by rw [← hw11]; exact Blk.new _ _ _
      have hbw11 : Below w10.heap.size w10 w11 := by rw [← hw11]; exact (Below.refl _ _).alloc (Nat.le_refl _) _
      replace hv := hv.below hbw11 (Nat.le_refl _)
      obtain ⟨cx0, cx1, cx2, cx3, cy0, cy1, cy2, cy3, sb⟩ := keepZ8 ⟨cx0, cx1, cx2, cx3, cy0, cy1, cy2, cy3, sb⟩ hbw11
      replace hBa := hBa.below hbw11 hBa.lt
      replace hBb := hBb.below hbw11 hBb.lt
      replace hBu := hBu.below hbw11 hBu.lt
      replace ha := ha.below hbw11 (Nat.le_refl _)
      replace hb := hb.below hbw11 (Nat.le_refl _)
      replace hu := hu.below hbw11 (Nat.le_refl _)
      clear hbw11
      have HW := hide hw11
      clear hw11
      go_upto_region 8 with (fail)
      rw [HW.out]
      clear HW
      generalize w10.heap.size = g11 at hBv ⊢
      have hXw := Hx.below sb (Nat.le_refl _)
      have hYw := Hy.below sb (Nat.le_refl _)
      have htw := ht.atBelow sb (Nat.le_refl _)
      obtain ⟨s0, s1, s2, s3, -⟩ := hBa.c4
      obtain ⟨t0, t1, t2, t3, -⟩ := hBb.c4
      obtain ⟨u0, u1, -⟩ := hBu.c2
      obtain ⟨v0, v1, -⟩ := hBv.c2
      obtain ⟨zA, zM, zV, zN⟩ := HD.out
      obtain ⟨lA1, lA2⟩ := HL.out
      obtain ⟨lM1, lM2⟩ := HM.out
      obtain ⟨lV1, lV2⟩ := HV.out
      obtain ⟨lN1, lN2⟩ := HN.out
      obtain ⟨C, hord⟩ : ∃ C, ordQ p q = C := ⟨_, rfl⟩
      replace hord := hide hord
      have hBd := (Below.refl w11.heap.size w11).drew
      clear hBa hBb hBu hBv HD HL HM HV HN
      generalize decide (p.den = 1) = D
      refine wp_region_held_drew (S := fun w' => w'.cell? ⟨w.heap.size, 0, none⟩ = some (.bool xn) ∧ w'.cell? ⟨w.heap.size, 1, none⟩ = some (.slice xa xl xk) ∧ w'.cell? ⟨w.heap.size, 2, none⟩ = some (.bool xm) ∧ w'.cell? ⟨w.heap.size, 3, none⟩ = some (.slice xb xi xj) ∧ w'.cell? ⟨w.heap.size + 1, 0, none⟩ = some (.bool yn) ∧ w'.cell? ⟨w.heap.size + 1, 1, none⟩ = some (.slice ya yl yk) ∧ w'.cell? ⟨w.heap.size + 1, 2, none⟩ = some (.bool ym) ∧ w'.cell? ⟨w.heap.size + 1, 3, none⟩ = some (.slice yb yi yj) ∧ w'.cell? ⟨g5, 0, none⟩ = some (.bool en) ∧ w'.cell? ⟨g5, 1, none⟩ = some (.slice ea el ek) ∧ w'.cell? ⟨g5, 2, none⟩ = some (.bool em) ∧ w'.cell? ⟨g5, 3, none⟩ = some (.slice eb ei ej) ∧ w'.cell? ⟨g6, 0, none⟩ = some (.bool dn) ∧ w'.cell? ⟨g6, 1, none⟩ = some (.slice da dl dk) ∧ w'.cell? ⟨g6, 2, none⟩ = some (.bool dm) ∧ w'.cell? ⟨g6, 3, none⟩ = some (.slice db di dj) ∧ w'.cell? ⟨g9, 0, none⟩ = some (.bool un) ∧ w'.cell? ⟨g9, 1, none⟩ = some (.slice ua ul uk) ∧ w'.cell? ⟨g11, 0, none⟩ = some (.bool vn) ∧ w'.cell? ⟨g11, 1, none⟩ = some (.slice va vl vk) ∧ Below w11.heap.size w11 w') (by kernel_rfl) (⟨cx0, cx1, cx2, cx3, cy0, cy1, cy2, cy3, s0, s1, s2, s3, t0, t1, t2, t3, u0, u1, v0, v1, hBd⟩) (fun hS => ?_)
      refine wpAnyH_take (i := 0) (oi := { dst := some 31, op := Op.load 58 (Operand.tmp 2), type := 58, pos := "law.go:41", after := #[], guard := none }) (v := ?_) rfl (by kernel_rfl) (by kernel_rfl) (by kernel_rfl) (fun _ _ _ h => h) (Or.inl ⟨by rfl, ?_⟩) hS ?_
      rotate_left
      · (intro w' hSw; (try dsimp only at hSw); go_simp; try with_reducible rfl)
      try simp only [Act.put, List.setIfInBounds_toArray, List.set_cons_zero, List.set_cons_succ]
      refine wpAnyH_take (i := 1) (oi := { dst := some 32, op := Op.load 58 (Operand.tmp 3), type := 58, pos := "law.go:41", after := #[], guard := none }) (v := ?_) rfl (by kernel_rfl) (by kernel_rfl) (by kernel_rfl) (fun _ _ _ h => h) (Or.inl ⟨by rfl, ?_⟩) hS ?_
      rotate_left
      · (intro w' hSw; (try dsimp only at hSw); go_simp; try with_reducible rfl)
      try simp only [Act.put, List.setIfInBounds_toArray, List.set_cons_zero, List.set_cons_succ]
      refine wpAnyH_take (i := 3) (oi := { dst := some 34, op := Op.load 64 (Operand.tmp 5), type := 64, pos := "law.go:41", after := #[], guard := none }) (v := ?_) rfl (by kernel_rfl) (by kernel_rfl) (by kernel_rfl) (fun _ _ _ h => h) (Or.inl ⟨by rfl, ?_⟩) hS ?_
      rotate_left
      · (intro w' hSw; (try dsimp only at hSw); go_simp; try with_reducible rfl)
      try simp only [Act.put, List.setIfInBounds_toArray, List.set_cons_zero, List.set_cons_succ]
      refine wpAnyH_take (i := 4) (oi := { dst := some 35, op := Op.load 64 (Operand.tmp 6), type := 64, pos := "law.go:41", after := #[], guard := none }) (v := ?_) rfl (by kernel_rfl) (by kernel_rfl) (by kernel_rfl) (fun _ _ _ h => h) (Or.inl ⟨by rfl, ?_⟩) hS ?_
      rotate_left
      · (intro w' hSw; (try dsimp only at hSw); go_simp; try with_reducible rfl)
      try simp only [Act.put, List.setIfInBounds_toArray, List.set_cons_zero, List.set_cons_succ]
      refine wpAnyH_ready (rs := [2]) (by kernel_rfl) (by simp) ?_
      refine AllReadyH.cons (o := { dst := some 33, op := Op.call { callee := Callee.value (Operand.func 53), args := #[Operand.tmp 31, Operand.tmp 32], argTypes := #[58, 58] }, type := 58, pos := "law.go:41", after := #[{ on := 0, ground := Ground.data }, { on := 1, ground := Ground.data }], guard := none }) rfl (fun K hK => ?_) AllReadyH.nil
      go_simp
      (go_at_call 53; (with_reducible refine (FAdd_any _ (hXw.below (hS.2.2.2.2.2.2.2.2.2.2.2.2.2.2.2.2.2.2.2.2) (Nat.le_refl _)) (hYw.below (hS.2.2.2.2.2.2.2.2.2.2.2.2.2.2.2.2.2.2.2.2) (Nat.le_refl _)) zx zy).mono ?_); rintro e wn ⟨rW, rfl, hW1, hb1⟩)
      go_wp2_with fail
      refine hK.out _ _ (⟨cellK hb1 hS.1, cellK hb1 hS.2.1, cellK hb1 hS.2.2.1, cellK hb1 hS.2.2.2.1, cellK hb1 hS.2.2.2.2.1, cellK hb1 hS.2.2.2.2.2.1, cellK hb1 hS.2.2.2.2.2.2.1, cellK hb1 hS.2.2.2.2.2.2.2.1, cellK hb1 hS.2.2.2.2.2.2.2.2.1, cellK hb1 hS.2.2.2.2.2.2.2.2.2.1, cellK hb1 hS.2.2.2.2.2.2.2.2.2.2.1, cellK hb1 hS.2.2.2.2.2.2.2.2.2.2.2.1, cellK hb1 hS.2.2.2.2.2.2.2.2.2.2.2.2.1, cellK hb1 hS.2.2.2.2.2.2.2.2.2.2.2.2.2.1, cellK hb1 hS.2.2.2.2.2.2.2.2.2.2.2.2.2.2.1, cellK hb1 hS.2.2.2.2.2.2.2.2.2.2.2.2.2.2.2.1, cellK hb1 hS.2.2.2.2.2.2.2.2.2.2.2.2.2.2.2.2.1, cellK hb1 hS.2.2.2.2.2.2.2.2.2.2.2.2.2.2.2.2.2.1, cellK hb1 hS.2.2.2.2.2.2.2.2.2.2.2.2.2.2.2.2.2.2.1, cellK hb1 hS.2.2.2.2.2.2.2.2.2.2.2.2.2.2.2.2.2.2.2.1, (hS.2.2.2.2.2.2.2.2.2.2.2.2.2.2.2.2.2.2.2.2).trans (hb1.mono (hS.2.2.2.2.2.2.2.2.2.2.2.2.2.2.2.2.2.2.2.2).size)⟩) (fun hS => ?_)
      clear hK K hb1
      try simp only [Act.put, List.setIfInBounds_toArray, List.set_cons_zero, List.set_cons_succ]
      refine wpAnyH_ready (rs := [5]) (by kernel_rfl) (by simp) ?_
      refine AllReadyH.cons (o := { dst := some 36, op := Op.call { callee := Callee.value (Operand.func 54), args := #[Operand.tmp 34, Operand.tmp 35], argTypes := #[64, 64] }, type := 64, pos := "law.go:41", after := #[{ on := 3, ground := Ground.data }, { on := 4, ground := Ground.data }, { on := 2, ground := Ground.chain }], guard := none }) rfl (fun K hK => ?_) AllReadyH.nil
      go_simp
      (go_at_call 54; (with_reducible refine (RAdd2_any _ (ha.below (hS.2.2.2.2.2.2.2.2.2.2.2.2.2.2.2.2.2.2.2.2) (Nat.le_refl _)) (hb.below (hS.2.2.2.2.2.2.2.2.2.2.2.2.2.2.2.2.2.2.2.2) (Nat.le_refl _)) rx ry).mono ?_); rintro e wn ⟨rR, rfl, hR1, hb1⟩; have hW2 := hW1.below hb1 (Nat.le_refl _))
      go_wp2_with fail
      refine hK.out _ _ (⟨cellK hb1 hS.1, cellK hb1 hS.2.1, cellK hb1 hS.2.2.1, cellK hb1 hS.2.2.2.1, cellK hb1 hS.2.2.2.2.1, cellK hb1 hS.2.2.2.2.2.1, cellK hb1 hS.2.2.2.2.2.2.1, cellK hb1 hS.2.2.2.2.2.2.2.1, cellK hb1 hS.2.2.2.2.2.2.2.2.1, cellK hb1 hS.2.2.2.2.2.2.2.2.2.1, cellK hb1 hS.2.2.2.2.2.2.2.2.2.2.1, cellK hb1 hS.2.2.2.2.2.2.2.2.2.2.2.1, cellK hb1 hS.2.2.2.2.2.2.2.2.2.2.2.2.1, cellK hb1 hS.2.2.2.2.2.2.2.2.2.2.2.2.2.1, cellK hb1 hS.2.2.2.2.2.2.2.2.2.2.2.2.2.2.1, cellK hb1 hS.2.2.2.2.2.2.2.2.2.2.2.2.2.2.2.1, cellK hb1 hS.2.2.2.2.2.2.2.2.2.2.2.2.2.2.2.2.1, cellK hb1 hS.2.2.2.2.2.2.2.2.2.2.2.2.2.2.2.2.2.1, cellK hb1 hS.2.2.2.2.2.2.2.2.2.2.2.2.2.2.2.2.2.2.1, cellK hb1 hS.2.2.2.2.2.2.2.2.2.2.2.2.2.2.2.2.2.2.2.1, (hS.2.2.2.2.2.2.2.2.2.2.2.2.2.2.2.2.2.2.2.2).trans (hb1.mono (hS.2.2.2.2.2.2.2.2.2.2.2.2.2.2.2.2.2.2.2.2).size)⟩) (fun hS => ?_)
      clear hK K hb1
      try simp only [Act.put, List.setIfInBounds_toArray, List.set_cons_zero, List.set_cons_succ]
      refine wpAnyH_ready (rs := [6]) (by kernel_rfl) (by simp) ?_
      refine AllReadyH.cons (o := { dst := some 37, op := Op.call { callee := Callee.value (Operand.func 42), args := #[Operand.tmp 36], argTypes := #[64] }, type := 58, pos := "law.go:41", after := #[{ on := 5, ground := Ground.data }, { on := 5, ground := Ground.chain }], guard := none }) rfl (fun K hK => ?_) AllReadyH.nil
      go_simp
      (go_at_call 42; (with_reducible refine (RForm2_any _ hR1 lA1 lA2).mono ?_); rintro e wn ⟨rF, rfl, hF1, hb1⟩; have hW3 := hW2.below hb1 (Nat.le_refl _))
      go_wp2_with fail
      refine hK.out _ _ (⟨cellK hb1 hS.1, cellK hb1 hS.2.1, cellK hb1 hS.2.2.1, cellK hb1 hS.2.2.2.1, cellK hb1 hS.2.2.2.2.1, cellK hb1 hS.2.2.2.2.2.1, cellK hb1 hS.2.2.2.2.2.2.1, cellK hb1 hS.2.2.2.2.2.2.2.1, cellK hb1 hS.2.2.2.2.2.2.2.2.1, cellK hb1 hS.2.2.2.2.2.2.2.2.2.1, cellK hb1 hS.2.2.2.2.2.2.2.2.2.2.1, cellK hb1 hS.2.2.2.2.2.2.2.2.2.2.2.1, cellK hb1 hS.2.2.2.2.2.2.2.2.2.2.2.2.1, cellK hb1 hS.2.2.2.2.2.2.2.2.2.2.2.2.2.1, cellK hb1 hS.2.2.2.2.2.2.2.2.2.2.2.2.2.2.1, cellK hb1 hS.2.2.2.2.2.2.2.2.2.2.2.2.2.2.2.1, cellK hb1 hS.2.2.2.2.2.2.2.2.2.2.2.2.2.2.2.2.1, cellK hb1 hS.2.2.2.2.2.2.2.2.2.2.2.2.2.2.2.2.2.1, cellK hb1 hS.2.2.2.2.2.2.2.2.2.2.2.2.2.2.2.2.2.2.1, cellK hb1 hS.2.2.2.2.2.2.2.2.2.2.2.2.2.2.2.2.2.2.2.1, (hS.2.2.2.2.2.2.2.2.2.2.2.2.2.2.2.2.2.2.2.2).trans (hb1.mono (hS.2.2.2.2.2.2.2.2.2.2.2.2.2.2.2.2.2.2.2.2).size)⟩) (fun hS => ?_)
      clear hK K hb1
      try simp only [Act.put, List.setIfInBounds_toArray, List.set_cons_zero, List.set_cons_succ]
      refine wpAnyH_ready (rs := [7]) (by kernel_rfl) (by simp) ?_
      refine AllReadyH.cons (o := { dst := some 38, op := Op.call { callee := Callee.value (Operand.func 40), args := #[Operand.tmp 33, Operand.tmp 37], argTypes := #[58, 58] }, type := 4, pos := "law.go:41", after := #[{ on := 2, ground := Ground.data }, { on := 6, ground := Ground.data }, { on := 6, ground := Ground.chain }], guard := none }) rfl (fun K hK => ?_) AllReadyH.nil
      go_simp
      (go_at_call 40; (with_reducible refine (Same3_true hW3 hF1 rfl zA).mono ?_); rintro e wn ⟨rfl, hb1⟩)
      go_wp2_with fail
      refine hK.out _ _ (⟨cellK hb1 hS.1, cellK hb1 hS.2.1, cellK hb1 hS.2.2.1, cellK hb1 hS.2.2.2.1, cellK hb1 hS.2.2.2.2.1, cellK hb1 hS.2.2.2.2.2.1, cellK hb1 hS.2.2.2.2.2.2.1, cellK hb1 hS.2.2.2.2.2.2.2.1, cellK hb1 hS.2.2.2.2.2.2.2.2.1, cellK hb1 hS.2.2.2.2.2.2.2.2.2.1, cellK hb1 hS.2.2.2.2.2.2.2.2.2.2.1, cellK hb1 hS.2.2.2.2.2.2.2.2.2.2.2.1, cellK hb1 hS.2.2.2.2.2.2.2.2.2.2.2.2.1, cellK hb1 hS.2.2.2.2.2.2.2.2.2.2.2.2.2.1, cellK hb1 hS.2.2.2.2.2.2.2.2.2.2.2.2.2.2.1, cellK hb1 hS.2.2.2.2.2.2.2.2.2.2.2.2.2.2.2.1, cellK hb1 hS.2.2.2.2.2.2.2.2.2.2.2.2.2.2.2.2.1, cellK hb1 hS.2.2.2.2.2.2.2.2.2.2.2.2.2.2.2.2.2.1, cellK hb1 hS.2.2.2.2.2.2.2.2.2.2.2.2.2.2.2.2.2.2.1, cellK hb1 hS.2.2.2.2.2.2.2.2.2.2.2.2.2.2.2.2.2.2.2.1, (hS.2.2.2.2.2.2.2.2.2.2.2.2.2.2.2.2.2.2.2.2).trans (hb1.mono (hS.2.2.2.2.2.2.2.2.2.2.2.2.2.2.2.2.2.2.2.2).size)⟩) (fun hS => ?_)
      clear hK K hb1
      try simp only [Act.put, List.setIfInBounds_toArray, List.set_cons_zero, List.set_cons_succ]
      refine wpAnyH_take (i := 8) (oi := { dst := some 39, op := Op.move (Operand.tmp 38), type := 4, pos := "law.go:41", after := #[{ on := 7, ground := Ground.data }, { on := 7, ground := Ground.chain }], guard := none }) (v := ?_) rfl (by kernel_rfl) (by kernel_rfl) (by kernel_rfl) (fun _ _ _ h => h) (Or.inl ⟨by rfl, ?_⟩) hS ?_
      rotate_left
      · (intro w' hSw; (try dsimp only at hSw); go_simp; try with_reducible rfl)
      try simp only [Act.put, List.setIfInBounds_toArray, List.set_cons_zero, List.set_cons_succ]
      refine wpAnyH_take (i := 9) (oi := { dst := some 40, op := Op.load 58 (Operand.tmp 2), type := 58, pos := "law.go:41", after := #[{ on := 8, ground := Ground.guard }], guard := some (8, true) }) (v := ?_) rfl (by kernel_rfl) (by kernel_rfl) (by kernel_rfl) (fun _ _ _ h => h) (Or.inl ⟨by rfl, ?_⟩) hS ?_
      rotate_left
      · (intro w' hSw; (try dsimp only at hSw); go_simp; try with_reducible rfl)
      try simp only [Act.put, List.setIfInBounds_toArray, List.set_cons_zero, List.set_cons_succ]
      refine wpAnyH_take (i := 10) (oi := { dst := some 41, op := Op.load 58 (Operand.tmp 3), type := 58, pos := "law.go:41", after := #[{ on := 8, ground := Ground.guard }], guard := some (8, true) }) (v := ?_) rfl (by kernel_rfl) (by kernel_rfl) (by kernel_rfl) (fun _ _ _ h => h) (Or.inl ⟨by rfl, ?_⟩) hS ?_
      rotate_left
      · (intro w' hSw; (try dsimp only at hSw); go_simp; try with_reducible rfl)
      try simp only [Act.put, List.setIfInBounds_toArray, List.set_cons_zero, List.set_cons_succ]
      refine wpAnyH_take (i := 12) (oi := { dst := some 43, op := Op.load 64 (Operand.tmp 5), type := 64, pos := "law.go:41", after := #[{ on := 8, ground := Ground.guard }], guard := some (8, true) }) (v := ?_) rfl (by kernel_rfl) (by kernel_rfl) (by kernel_rfl) (fun _ _ _ h => h) (Or.inl ⟨by rfl, ?_⟩) hS ?_
      rotate_left
      · (intro w' hSw; (try dsimp only at hSw); go_simp; try with_reducible rfl)
      try simp only [Act.put, List.setIfInBounds_toArray, List.set_cons_zero, List.set_cons_succ]
      refine wpAnyH_take (i := 13) (oi := { dst := some 44, op := Op.load 64 (Operand.tmp 6), type := 64, pos := "law.go:41", after := #[{ on := 8, ground := Ground.guard }], guard := some (8, true) }) (v := ?_) rfl (by kernel_rfl) (by kernel_rfl) (by kernel_rfl) (fun _ _ _ h => h) (Or.inl ⟨by rfl, ?_⟩) hS ?_
      rotate_left
      · (intro w' hSw; (try dsimp only at hSw); go_simp; try with_reducible rfl)
      try simp only [Act.put, List.setIfInBounds_toArray, List.set_cons_zero, List.set_cons_succ]
      refine wpAnyH_ready (rs := [11]) (by kernel_rfl) (by simp) ?_
      refine AllReadyH.cons (o := { dst := some 42, op := Op.call { callee := Callee.value (Operand.func 47), args := #[Operand.tmp 40, Operand.tmp 41], argTypes := #[58, 58] }, type := 58, pos := "law.go:41", after := #[{ on := 9, ground := Ground.data }, { on := 10, ground := Ground.data }, { on := 8, ground := Ground.chain }, { on := 8, ground := Ground.guard }], guard := some (8, true) }) rfl (fun K hK => ?_) AllReadyH.nil
      go_simp
      (go_at_call 47; (with_reducible refine (FMul_any _ (hXw.below (hS.2.2.2.2.2.2.2.2.2.2.2.2.2.2.2.2.2.2.2.2) (Nat.le_refl _)) (hYw.below (hS.2.2.2.2.2.2.2.2.2.2.2.2.2.2.2.2.2.2.2.2) (Nat.le_refl _)) zx zy).mono ?_); rintro e wn ⟨rW, rfl, hW1, hb1⟩)
      go_wp2_with fail
      refine hK.out _ _ (⟨cellK hb1 hS.1, cellK hb1 hS.2.1, cellK hb1 hS.2.2.1, cellK hb1 hS.2.2.2.1, cellK hb1 hS.2.2.2.2.1, cellK hb1 hS.2.2.2.2.2.1, cellK hb1 hS.2.2.2.2.2.2.1, cellK hb1 hS.2.2.2.2.2.2.2.1, cellK hb1 hS.2.2.2.2.2.2.2.2.1, cellK hb1 hS.2.2.2.2.2.2.2.2.2.1, cellK hb1 hS.2.2.2.2.2.2.2.2.2.2.1, cellK hb1 hS.2.2.2.2.2.2.2.2.2.2.2.1, cellK hb1 hS.2.2.2.2.2.2.2.2.2.2.2.2.1, cellK hb1 hS.2.2.2.2.2.2.2.2.2.2.2.2.2.1, cellK hb1 hS.2.2.2.2.2.2.2.2.2.2.2.2.2.2.1, cellK hb1 hS.2.2.2.2.2.2.2.2.2.2.2.2.2.2.2.1, cellK hb1 hS.2.2.2.2.2.2.2.2.2.2.2.2.2.2.2.2.1, cellK hb1 hS.2.2.2.2.2.2.2.2.2.2.2.2.2.2.2.2.2.1, cellK hb1 hS.2.2.2.2.2.2.2.2.2.2.2.2.2.2.2.2.2.2.1, cellK hb1 hS.2.2.2.2.2.2.2.2.2.2.2.2.2.2.2.2.2.2.2.1, (hS.2.2.2.2.2.2.2.2.2.2.2.2.2.2.2.2.2.2.2.2).trans (hb1.mono (hS.2.2.2.2.2.2.2.2.2.2.2.2.2.2.2.2.2.2.2.2).size)⟩) (fun hS => ?_)
      clear hK K hb1
      try simp only [Act.put, List.setIfInBounds_toArray, List.set_cons_zero, List.set_cons_succ]
      refine wpAnyH_ready (rs := [14]) (by kernel_rfl) (by simp) ?_
      refine AllReadyH.cons (o := { dst := some 45, op := Op.call { callee := Callee.value (Operand.func 55), args := #[Operand.tmp 43, Operand.tmp 44], argTypes := #[64, 64] }, type := 64, pos := "law.go:41", after := #[{ on := 12, ground := Ground.data }, { on := 13, ground := Ground.data }, { on := 11, ground := Ground.chain }, { on := 8, ground := Ground.guard }], guard := some (8, true) }) rfl (fun K hK => ?_) AllReadyH.nil
      go_simp
      (go_at_call 55; (with_reducible refine (RMul2_any _ (ha.below (hS.2.2.2.2.2.2.2.2.2.2.2.2.2.2.2.2.2.2.2.2) (Nat.le_refl _)) (hb.below (hS.2.2.2.2.2.2.2.2.2.2.2.2.2.2.2.2.2.2.2.2) (Nat.le_refl _)) rx ry).mono ?_); rintro e wn ⟨rR, rfl, hR1, hb1⟩; have hW2 := hW1.below hb1 (Nat.le_refl _))
      go_wp2_with fail
      refine hK.out _ _ (⟨cellK hb1 hS.1, cellK hb1 hS.2.1, cellK hb1 hS.2.2.1, cellK hb1 hS.2.2.2.1, cellK hb1 hS.2.2.2.2.1, cellK hb1 hS.2.2.2.2.2.1, cellK hb1 hS.2.2.2.2.2.2.1, cellK hb1 hS.2.2.2.2.2.2.2.1, cellK hb1 hS.2.2.2.2.2.2.2.2.1, cellK hb1 hS.2.2.2.2.2.2.2.2.2.1, cellK hb1 hS.2.2.2.2.2.2.2.2.2.2.1, cellK hb1 hS.2.2.2.2.2.2.2.2.2.2.2.1, cellK hb1 hS.2.2.2.2.2.2.2.2.2.2.2.2.1, cellK hb1 hS.2.2.2.2.2.2.2.2.2.2.2.2.2.1, cellK hb1 hS.2.2.2.2.2.2.2.2.2.2.2.2.2.2.1, cellK hb1 hS.2.2.2.2.2.2.2.2.2.2.2.2.2.2.2.1, cellK hb1 hS.2.2.2.2.2.2.2.2.2.2.2.2.2.2.2.2.1, cellK hb1 hS.2.2.2.2.2.2.2.2.2.2.2.2.2.2.2.2.2.1, cellK hb1 hS.2.2.2.2.2.2.2.2.2.2.2.2.2.2.2.2.2.2.1, cellK hb1 hS.2.2.2.2.2.2.2.2.2.2.2.2.2.2.2.2.2.2.2.1, (hS.2.2.2.2.2.2.2.2.2.2.2.2.2.2.2.2.2.2.2.2).trans (hb1.mono (hS.2.2.2.2.2.2.2.2.2.2.2.2.2.2.2.2.2.2.2.2).size)⟩) (fun hS => ?_)
      clear hK K hb1
      try simp only [Act.put, List.setIfInBounds_toArray, List.set_cons_zero, List.set_cons_succ]
      refine wpAnyH_ready (rs := [15]) (by kernel_rfl) (by simp) ?_
      refine AllReadyH.cons (o := { dst := some 46, op := Op.call { callee := Callee.value (Operand.func 42), args := #[Operand.tmp 45], argTypes := #[64] }, type := 58, pos := "law.go:41", after := #[{ on := 14, ground := Ground.data }, { on := 14, ground := Ground.chain }, { on := 8, ground := Ground.guard }], guard := some (8, true) }) rfl (fun K hK => ?_) AllReadyH.nil
      go_simp
      (go_at_call 42; (with_reducible refine (RForm2_any _ hR1 lM1 lM2).mono ?_); rintro e wn ⟨rF, rfl, hF1, hb1⟩; have hW3 := hW2.below hb1 (Nat.le_refl _))
      go_wp2_with fail
      refine hK.out _ _ (⟨cellK hb1 hS.1, cellK hb1 hS.2.1, cellK hb1 hS.2.2.1, cellK hb1 hS.2.2.2.1, cellK hb1 hS.2.2.2.2.1, cellK hb1 hS.2.2.2.2.2.1, cellK hb1 hS.2.2.2.2.2.2.1, cellK hb1 hS.2.2.2.2.2.2.2.1, cellK hb1 hS.2.2.2.2.2.2.2.2.1, cellK hb1 hS.2.2.2.2.2.2.2.2.2.1, cellK hb1 hS.2.2.2.2.2.2.2.2.2.2.1, cellK hb1 hS.2.2.2.2.2.2.2.2.2.2.2.1, cellK hb1 hS.2.2.2.2.2.2.2.2.2.2.2.2.1, cellK hb1 hS.2.2.2.2.2.2.2.2.2.2.2.2.2.1, cellK hb1 hS.2.2.2.2.2.2.2.2.2.2.2.2.2.2.1, cellK hb1 hS.2.2.2.2.2.2.2.2.2.2.2.2.2.2.2.1, cellK hb1 hS.2.2.2.2.2.2.2.2.2.2.2.2.2.2.2.2.1, cellK hb1 hS.2.2.2.2.2.2.2.2.2.2.2.2.2.2.2.2.2.1, cellK hb1 hS.2.2.2.2.2.2.2.2.2.2.2.2.2.2.2.2.2.2.1, cellK hb1 hS.2.2.2.2.2.2.2.2.2.2.2.2.2.2.2.2.2.2.2.1, (hS.2.2.2.2.2.2.2.2.2.2.2.2.2.2.2.2.2.2.2.2).trans (hb1.mono (hS.2.2.2.2.2.2.2.2.2.2.2.2.2.2.2.2.2.2.2.2).size)⟩) (fun hS => ?_)
      clear hK K hb1
      try simp only [Act.put, List.setIfInBounds_toArray, List.set_cons_zero, List.set_cons_succ]
      refine wpAnyH_ready (rs := [16]) (by kernel_rfl) (by simp) ?_
      refine AllReadyH.cons (o := { dst := some 47, op := Op.call { callee := Callee.value (Operand.func 40), args := #[Operand.tmp 42, Operand.tmp 46], argTypes := #[58, 58] }, type := 4, pos := "law.go:41", after := #[{ on := 11, ground := Ground.data }, { on := 15, ground := Ground.data }, { on := 15, ground := Ground.chain }, { on := 8, ground := Ground.guard }], guard := some (8, true) }) rfl (fun K hK => ?_) AllReadyH.nil
      go_simp
      (go_at_call 40; (with_reducible refine (Same3_true hW3 hF1 rfl zM).mono ?_); rintro e wn ⟨rfl, hb1⟩)
      go_wp2_with fail
      refine hK.out _ _ (⟨cellK hb1 hS.1, cellK hb1 hS.2.1, cellK hb1 hS.2.2.1, cellK hb1 hS.2.2.2.1, cellK hb1 hS.2.2.2.2.1, cellK hb1 hS.2.2.2.2.2.1, cellK hb1 hS.2.2.2.2.2.2.1, cellK hb1 hS.2.2.2.2.2.2.2.1, cellK hb1 hS.2.2.2.2.2.2.2.2.1, cellK hb1 hS.2.2.2.2.2.2.2.2.2.1, cellK hb1 hS.2.2.2.2.2.2.2.2.2.2.1, cellK hb1 hS.2.2.2.2.2.2.2.2.2.2.2.1, cellK hb1 hS.2.2.2.2.2.2.2.2.2.2.2.2.1, cellK hb1 hS.2.2.2.2.2.2.2.2.2.2.2.2.2.1, cellK hb1 hS.2.2.2.2.2.2.2.2.2.2.2.2.2.2.1, cellK hb1 hS.2.2.2.2.2.2.2.2.2.2.2.2.2.2.2.1, cellK hb1 hS.2.2.2.2.2.2.2.2.2.2.2.2.2.2.2.2.1, cellK hb1 hS.2.2.2.2.2.2.2.2.2.2.2.2.2.2.2.2.2.1, cellK hb1 hS.2.2.2.2.2.2.2.2.2.2.2.2.2.2.2.2.2.2.1, cellK hb1 hS.2.2.2.2.2.2.2.2.2.2.2.2.2.2.2.2.2.2.2.1, (hS.2.2.2.2.2.2.2.2.2.2.2.2.2.2.2.2.2.2.2.2).trans (hb1.mono (hS.2.2.2.2.2.2.2.2.2.2.2.2.2.2.2.2.2.2.2.2).size)⟩) (fun hS => ?_)
      clear hK K hb1
      try simp only [Act.put, List.setIfInBounds_toArray, List.set_cons_zero, List.set_cons_succ]
      refine wpAnyH_take (i := 17) (oi := { dst := some 48, op := Op.pick (Operand.tmp 39) (Operand.tmp 47) (Operand.const (Value.bool false)), type := 4, pos := "law.go:41", after := #[{ on := 8, ground := Ground.data }, { on := 16, ground := Ground.data }], guard := none }) (v := ?_) rfl (by kernel_rfl) (by kernel_rfl) (by kernel_rfl) (fun _ _ _ h => h) (Or.inl ⟨by rfl, ?_⟩) hS ?_
      rotate_left
      · (intro w' hSw; (try dsimp only at hSw); go_simp; try with_reducible rfl)
      try simp only [Act.put, List.setIfInBounds_toArray, List.set_cons_zero, List.set_cons_succ]
      refine wpAnyH_take (i := 18) (oi := { dst := some 49, op := Op.move (Operand.tmp 48), type := 4, pos := "law.go:41", after := #[{ on := 17, ground := Ground.data }, { on := 16, ground := Ground.chain }], guard := none }) (v := ?_) rfl (by kernel_rfl) (by kernel_rfl) (by kernel_rfl) (fun _ _ _ h => h) (Or.inl ⟨by rfl, ?_⟩) hS ?_
      rotate_left
      · (intro w' hSw; (try dsimp only at hSw); go_simp; try with_reducible rfl)
      try simp only [Act.put, List.setIfInBounds_toArray, List.set_cons_zero, List.set_cons_succ]
      refine wpAnyH_take (i := 19) (oi := { dst := some 50, op := Op.load 58 (Operand.tmp 2), type := 58, pos := "law.go:41", after := #[{ on := 18, ground := Ground.guard }], guard := some (18, true) }) (v := ?_) rfl (by kernel_rfl) (by kernel_rfl) (by kernel_rfl) (fun _ _ _ h => h) (Or.inl ⟨by rfl, ?_⟩) hS ?_
      rotate_left
      · (intro w' hSw; (try dsimp only at hSw); go_simp; try with_reducible rfl)
      try simp only [Act.put, List.setIfInBounds_toArray, List.set_cons_zero, List.set_cons_succ]
      refine wpAnyH_take (i := 20) (oi := { dst := some 51, op := Op.load 58 (Operand.tmp 3), type := 58, pos := "law.go:41", after := #[{ on := 18, ground := Ground.guard }], guard := some (18, true) }) (v := ?_) rfl (by kernel_rfl) (by kernel_rfl) (by kernel_rfl) (fun _ _ _ h => h) (Or.inl ⟨by rfl, ?_⟩) hS ?_
      rotate_left
      · (intro w' hSw; (try dsimp only at hSw); go_simp; try with_reducible rfl)
      try simp only [Act.put, List.setIfInBounds_toArray, List.set_cons_zero, List.set_cons_succ]
      refine wpAnyH_take (i := 22) (oi := { dst := some 53, op := Op.load 64 (Operand.tmp 5), type := 64, pos := "law.go:41", after := #[{ on := 18, ground := Ground.guard }], guard := some (18, true) }) (v := ?_) rfl (by kernel_rfl) (by kernel_rfl) (by kernel_rfl) (fun _ _ _ h => h) (Or.inl ⟨by rfl, ?_⟩) hS ?_
      rotate_left
      · (intro w' hSw; (try dsimp only at hSw); go_simp; try with_reducible rfl)
      try simp only [Act.put, List.setIfInBounds_toArray, List.set_cons_zero, List.set_cons_succ]
      refine wpAnyH_take (i := 23) (oi := { dst := some 54, op := Op.load 64 (Operand.tmp 6), type := 64, pos := "law.go:41", after := #[{ on := 18, ground := Ground.guard }], guard := some (18, true) }) (v := ?_) rfl (by kernel_rfl) (by kernel_rfl) (by kernel_rfl) (fun _ _ _ h => h) (Or.inl ⟨by rfl, ?_⟩) hS ?_
      rotate_left
      · (intro w' hSw; (try dsimp only at hSw); go_simp; try with_reducible rfl)
      try simp only [Act.put, List.setIfInBounds_toArray, List.set_cons_zero, List.set_cons_succ]
      refine wpAnyH_ready (rs := [21]) (by kernel_rfl) (by simp) ?_
      refine AllReadyH.cons (o := { dst := some 52, op := Op.call { callee := Callee.value (Operand.func 49), args := #[Operand.tmp 50, Operand.tmp 51], argTypes := #[58, 58] }, type := 58, pos := "law.go:41", after := #[{ on := 19, ground := Ground.data }, { on := 20, ground := Ground.data }, { on := 18, ground := Ground.chain }, { on := 18, ground := Ground.guard }], guard := some (18, true) }) rfl (fun K hK => ?_) AllReadyH.nil
      go_simp
      (go_at_call 49; (with_reducible refine (FDiv_any _ (hXw.below (hS.2.2.2.2.2.2.2.2.2.2.2.2.2.2.2.2.2.2.2.2) (Nat.le_refl _)) (hYw.below (hS.2.2.2.2.2.2.2.2.2.2.2.2.2.2.2.2.2.2.2.2) (Nat.le_refl _)) zx zy).mono ?_); rintro e wn ⟨rW, rfl, hW1, hb1⟩)
      go_wp2_with fail
      refine hK.out _ _ (⟨cellK hb1 hS.1, cellK hb1 hS.2.1, cellK hb1 hS.2.2.1, cellK hb1 hS.2.2.2.1, cellK hb1 hS.2.2.2.2.1, cellK hb1 hS.2.2.2.2.2.1, cellK hb1 hS.2.2.2.2.2.2.1, cellK hb1 hS.2.2.2.2.2.2.2.1, cellK hb1 hS.2.2.2.2.2.2.2.2.1, cellK hb1 hS.2.2.2.2.2.2.2.2.2.1, cellK hb1 hS.2.2.2.2.2.2.2.2.2.2.1, cellK hb1 hS.2.2.2.2.2.2.2.2.2.2.2.1, cellK hb1 hS.2.2.2.2.2.2.2.2.2.2.2.2.1, cellK hb1 hS.2.2.2.2.2.2.2.2.2.2.2.2.2.1, cellK hb1 hS.2.2.2.2.2.2.2.2.2.2.2.2.2.2.1, cellK hb1 hS.2.2.2.2.2.2.2.2.2.2.2.2.2.2.2.1, cellK hb1 hS.2.2.2.2.2.2.2.2.2.2.2.2.2.2.2.2.1, cellK hb1 hS.2.2.2.2.2.2.2.2.2.2.2.2.2.2.2.2.2.1, cellK hb1 hS.2.2.2.2.2.2.2.2.2.2.2.2.2.2.2.2.2.2.1, cellK hb1 hS.2.2.2.2.2.2.2.2.2.2.2.2.2.2.2.2.2.2.2.1, (hS.2.2.2.2.2.2.2.2.2.2.2.2.2.2.2.2.2.2.2.2).trans (hb1.mono (hS.2.2.2.2.2.2.2.2.2.2.2.2.2.2.2.2.2.2.2.2).size)⟩) (fun hS => ?_)
      clear hK K hb1
      try simp only [Act.put, List.setIfInBounds_toArray, List.set_cons_zero, List.set_cons_succ]
      refine wpAnyH_ready (rs := [24]) (by kernel_rfl) (by simp) ?_
      refine AllReadyH.cons (o := { dst := some 55, op := Op.call { callee := Callee.value (Operand.func 56), args := #[Operand.tmp 53, Operand.tmp 54], argTypes := #[64, 64] }, type := 64, pos := "law.go:41", after := #[{ on := 22, ground := Ground.data }, { on := 23, ground := Ground.data }, { on := 21, ground := Ground.chain }, { on := 18, ground := Ground.guard }], guard := some (18, true) }) rfl (fun K hK => ?_) AllReadyH.nil
      go_simp
      (go_at_call 56; (with_reducible refine (RDiv2_any _ (ha.below (hS.2.2.2.2.2.2.2.2.2.2.2.2.2.2.2.2.2.2.2.2) (Nat.le_refl _)) (hb.below (hS.2.2.2.2.2.2.2.2.2.2.2.2.2.2.2.2.2.2.2.2) (Nat.le_refl _)) rx ry).mono ?_); rintro e wn ⟨rR, rfl, hR1, hb1⟩; have hW2 := hW1.below hb1 (Nat.le_refl _))
      go_wp2_with fail
      refine hK.out _ _ (⟨cellK hb1 hS.1, cellK hb1 hS.2.1, cellK hb1 hS.2.2.1, cellK hb1 hS.2.2.2.1, cellK hb1 hS.2.2.2.2.1, cellK hb1 hS.2.2.2.2.2.1, cellK hb1 hS.2.2.2.2.2.2.1, cellK hb1 hS.2.2.2.2.2.2.2.1, cellK hb1 hS.2.2.2.2.2.2.2.2.1, cellK hb1 hS.2.2.2.2.2.2.2.2.2.1, cellK hb1 hS.2.2.2.2.2.2.2.2.2.2.1, cellK hb1 hS.2.2.2.2.2.2.2.2.2.2.2.1, cellK hb1 hS.2.2.2.2.2.2.2.2.2.2.2.2.1, cellK hb1 hS.2.2.2.2.2.2.2.2.2.2.2.2.2.1, cellK hb1 hS.2.2.2.2.2.2.2.2.2.2.2.2.2.2.1, cellK hb1 hS.2.2.2.2.2.2.2.2.2.2.2.2.2.2.2.1, cellK hb1 hS.2.2.2.2.2.2.2.2.2.2.2.2.2.2.2.2.1, cellK hb1 hS.2.2.2.2.2.2.2.2.2.2.2.2.2.2.2.2.2.1, cellK hb1 hS.2.2.2.2.2.2.2.2.2.2.2.2.2.2.2.2.2.2.1, cellK hb1 hS.2.2.2.2.2.2.2.2.2.2.2.2.2.2.2.2.2.2.2.1, (hS.2.2.2.2.2.2.2.2.2.2.2.2.2.2.2.2.2.2.2.2).trans (hb1.mono (hS.2.2.2.2.2.2.2.2.2.2.2.2.2.2.2.2.2.2.2.2).size)⟩) (fun hS => ?_)
      clear hK K hb1
      try simp only [Act.put, List.setIfInBounds_toArray, List.set_cons_zero, List.set_cons_succ]
      refine wpAnyH_ready (rs := [25]) (by kernel_rfl) (by simp) ?_
      refine AllReadyH.cons (o := { dst := some 56, op := Op.call { callee := Callee.value (Operand.func 42), args := #[Operand.tmp 55], argTypes := #[64] }, type := 58, pos := "law.go:41", after := #[{ on := 24, ground := Ground.data }, { on := 24, ground := Ground.chain }, { on := 18, ground := Ground.guard }], guard := some (18, true) }) rfl (fun K hK => ?_) AllReadyH.nil
      go_simp
      (go_at_call 42; (with_reducible refine (RForm2_any _ hR1 lV1 lV2).mono ?_); rintro e wn ⟨rF, rfl, hF1, hb1⟩; have hW3 := hW2.below hb1 (Nat.le_refl _))
      go_wp2_with fail
      refine hK.out _ _ (⟨cellK hb1 hS.1, cellK hb1 hS.2.1, cellK hb1 hS.2.2.1, cellK hb1 hS.2.2.2.1, cellK hb1 hS.2.2.2.2.1, cellK hb1 hS.2.2.2.2.2.1, cellK hb1 hS.2.2.2.2.2.2.1, cellK hb1 hS.2.2.2.2.2.2.2.1, cellK hb1 hS.2.2.2.2.2.2.2.2.1, cellK hb1 hS.2.2.2.2.2.2.2.2.2.1, cellK hb1 hS.2.2.2.2.2.2.2.2.2.2.1, cellK hb1 hS.2.2.2.2.2.2.2.2.2.2.2.1, cellK hb1 hS.2.2.2.2.2.2.2.2.2.2.2.2.1, cellK hb1 hS.2.2.2.2.2.2.2.2.2.2.2.2.2.1, cellK hb1 hS.2.2.2.2.2.2.2.2.2.2.2.2.2.2.1, cellK hb1 hS.2.2.2.2.2.2.2.2.2.2.2.2.2.2.2.1, cellK hb1 hS.2.2.2.2.2.2.2.2.2.2.2.2.2.2.2.2.1, cellK hb1 hS.2.2.2.2.2.2.2.2.2.2.2.2.2.2.2.2.2.1, cellK hb1 hS.2.2.2.2.2.2.2.2.2.2.2.2.2.2.2.2.2.2.1, cellK hb1 hS.2.2.2.2.2.2.2.2.2.2.2.2.2.2.2.2.2.2.2.1, (hS.2.2.2.2.2.2.2.2.2.2.2.2.2.2.2.2.2.2.2.2).trans (hb1.mono (hS.2.2.2.2.2.2.2.2.2.2.2.2.2.2.2.2.2.2.2.2).size)⟩) (fun hS => ?_)
      clear hK K hb1
      try simp only [Act.put, List.setIfInBounds_toArray, List.set_cons_zero, List.set_cons_succ]
      refine wpAnyH_ready (rs := [26]) (by kernel_rfl) (by simp) ?_
      refine AllReadyH.cons (o := { dst := some 57, op := Op.call { callee := Callee.value (Operand.func 40), args := #[Operand.tmp 52, Operand.tmp 56], argTypes := #[58, 58] }, type := 4, pos := "law.go:41", after := #[{ on := 21, ground := Ground.data }, { on := 25, ground := Ground.data }, { on := 25, ground := Ground.chain }, { on := 18, ground := Ground.guard }], guard := some (18, true) }) rfl (fun K hK => ?_) AllReadyH.nil
      go_simp
      (go_at_call 40; (with_reducible refine (Same3_true hW3 hF1 rfl zV).mono ?_); rintro e wn ⟨rfl, hb1⟩)
      go_wp2_with fail
      refine hK.out _ _ (⟨cellK hb1 hS.1, cellK hb1 hS.2.1, cellK hb1 hS.2.2.1, cellK hb1 hS.2.2.2.1, cellK hb1 hS.2.2.2.2.1, cellK hb1 hS.2.2.2.2.2.1, cellK hb1 hS.2.2.2.2.2.2.1, cellK hb1 hS.2.2.2.2.2.2.2.1, cellK hb1 hS.2.2.2.2.2.2.2.2.1, cellK hb1 hS.2.2.2.2.2.2.2.2.2.1, cellK hb1 hS.2.2.2.2.2.2.2.2.2.2.1, cellK hb1 hS.2.2.2.2.2.2.2.2.2.2.2.1, cellK hb1 hS.2.2.2.2.2.2.2.2.2.2.2.2.1, cellK hb1 hS.2.2.2.2.2.2.2.2.2.2.2.2.2.1, cellK hb1 hS.2.2.2.2.2.2.2.2.2.2.2.2.2.2.1, cellK hb1 hS.2.2.2.2.2.2.2.2.2.2.2.2.2.2.2.1, cellK hb1 hS.2.2.2.2.2.2.2.2.2.2.2.2.2.2.2.2.1, cellK hb1 hS.2.2.2.2.2.2.2.2.2.2.2.2.2.2.2.2.2.1, cellK hb1 hS.2.2.2.2.2.2.2.2.2.2.2.2.2.2.2.2.2.2.1, cellK hb1 hS.2.2.2.2.2.2.2.2.2.2.2.2.2.2.2.2.2.2.2.1, (hS.2.2.2.2.2.2.2.2.2.2.2.2.2.2.2.2.2.2.2.2).trans (hb1.mono (hS.2.2.2.2.2.2.2.2.2.2.2.2.2.2.2.2.2.2.2.2).size)⟩) (fun hS => ?_)
      clear hK K hb1
      try simp only [Act.put, List.setIfInBounds_toArray, List.set_cons_zero, List.set_cons_succ]
      refine wpAnyH_take (i := 27) (oi := { dst := some 58, op := Op.pick (Operand.tmp 49) (Operand.tmp 57) (Operand.const (Value.bool false)), type := 4, pos := "law.go:41", after := #[{ on := 18, ground := Ground.data }, { on := 26, ground := Ground.data }], guard := none }) (v := ?_) rfl (by kernel_rfl) (by kernel_rfl) (by kernel_rfl) (fun _ _ _ h => h) (Or.inl ⟨by rfl, ?_⟩) hS ?_
      rotate_left
      · (intro w' hSw; (try dsimp only at hSw); go_simp; try with_reducible rfl)
      try simp only [Act.put, List.setIfInBounds_toArray, List.set_cons_zero, List.set_cons_succ]
      refine wpAnyH_take (i := 28) (oi := { dst := some 59, op := Op.move (Operand.tmp 58), type := 4, pos := "law.go:41", after := #[{ on := 27, ground := Ground.data }, { on := 26, ground := Ground.chain }], guard := none }) (v := ?_) rfl (by kernel_rfl) (by kernel_rfl) (by kernel_rfl) (fun _ _ _ h => h) (Or.inl ⟨by rfl, ?_⟩) hS ?_
      rotate_left
      · (intro w' hSw; (try dsimp only at hSw); go_simp; try with_reducible rfl)
      try simp only [Act.put, List.setIfInBounds_toArray, List.set_cons_zero, List.set_cons_succ]
      refine wpAnyH_take (i := 29) (oi := { dst := some 60, op := Op.load 58 (Operand.tmp 2), type := 58, pos := "law.go:41", after := #[{ on := 28, ground := Ground.guard }], guard := some (28, true) }) (v := ?_) rfl (by kernel_rfl) (by kernel_rfl) (by kernel_rfl) (fun _ _ _ h => h) (Or.inl ⟨by rfl, ?_⟩) hS ?_
      rotate_left
      · (intro w' hSw; (try dsimp only at hSw); go_simp; try with_reducible rfl)
      try simp only [Act.put, List.setIfInBounds_toArray, List.set_cons_zero, List.set_cons_succ]
      refine wpAnyH_take (i := 31) (oi := { dst := some 62, op := Op.load 64 (Operand.tmp 5), type := 64, pos := "law.go:41", after := #[{ on := 28, ground := Ground.guard }], guard := some (28, true) }) (v := ?_) rfl (by kernel_rfl) (by kernel_rfl) (by kernel_rfl) (fun _ _ _ h => h) (Or.inl ⟨by rfl, ?_⟩) hS ?_
      rotate_left
      · (intro w' hSw; (try dsimp only at hSw); go_simp; try with_reducible rfl)
      try simp only [Act.put, List.setIfInBounds_toArray, List.set_cons_zero, List.set_cons_succ]
      refine wpAnyH_ready (rs := [30]) (by kernel_rfl) (by simp) ?_
      refine AllReadyH.cons (o := { dst := some 61, op := Op.call { callee := Callee.value (Operand.func 48), args := #[Operand.tmp 60], argTypes := #[58] }, type := 58, pos := "law.go:41", after := #[{ on := 29, ground := Ground.data }, { on := 28, ground := Ground.chain }, { on := 28, ground := Ground.guard }], guard := some (28, true) }) rfl (fun K hK => ?_) AllReadyH.nil
      go_simp
      (go_at_call 48; (with_reducible refine (FNeg_any _ (hXw.below (hS.2.2.2.2.2.2.2.2.2.2.2.2.2.2.2.2.2.2.2.2) (Nat.le_refl _)) zx).mono ?_); rintro e wn ⟨rW, rfl, hW1, hb1⟩)
      go_wp2_with fail
      refine hK.out _ _ (⟨cellK hb1 hS.1, cellK hb1 hS.2.1, cellK hb1 hS.2.2.1, cellK hb1 hS.2.2.2.1, cellK hb1 hS.2.2.2.2.1, cellK hb1 hS.2.2.2.2.2.1, cellK hb1 hS.2.2.2.2.2.2.1, cellK hb1 hS.2.2.2.2.2.2.2.1, cellK hb1 hS.2.2.2.2.2.2.2.2.1, cellK hb1 hS.2.2.2.2.2.2.2.2.2.1, cellK hb1 hS.2.2.2.2.2.2.2.2.2.2.1, cellK hb1 hS.2.2.2.2.2.2.2.2.2.2.2.1, cellK hb1 hS.2.2.2.2.2.2.2.2.2.2.2.2.1, cellK hb1 hS.2.2.2.2.2.2.2.2.2.2.2.2.2.1, cellK hb1 hS.2.2.2.2.2.2.2.2.2.2.2.2.2.2.1, cellK hb1 hS.2.2.2.2.2.2.2.2.2.2.2.2.2.2.2.1, cellK hb1 hS.2.2.2.2.2.2.2.2.2.2.2.2.2.2.2.2.1, cellK hb1 hS.2.2.2.2.2.2.2.2.2.2.2.2.2.2.2.2.2.1, cellK hb1 hS.2.2.2.2.2.2.2.2.2.2.2.2.2.2.2.2.2.2.1, cellK hb1 hS.2.2.2.2.2.2.2.2.2.2.2.2.2.2.2.2.2.2.2.1, (hS.2.2.2.2.2.2.2.2.2.2.2.2.2.2.2.2.2.2.2.2).trans (hb1.mono (hS.2.2.2.2.2.2.2.2.2.2.2.2.2.2.2.2.2.2.2.2).size)⟩) (fun hS => ?_)
      clear hK K hb1
      try simp only [Act.put, List.setIfInBounds_toArray, List.set_cons_zero, List.set_cons_succ]
      refine wpAnyH_ready (rs := [32]) (by kernel_rfl) (by simp) ?_
      refine AllReadyH.cons (o := { dst := some 63, op := Op.call { callee := Callee.value (Operand.func 57), args := #[Operand.tmp 62], argTypes := #[64] }, type := 64, pos := "law.go:41", after := #[{ on := 31, ground := Ground.data }, { on := 30, ground := Ground.chain }, { on := 28, ground := Ground.guard }], guard := some (28, true) }) rfl (fun K hK => ?_) AllReadyH.nil
      go_simp
      (go_at_call 57; (with_reducible refine (RNeg2_any _ (ha.below (hS.2.2.2.2.2.2.2.2.2.2.2.2.2.2.2.2.2.2.2.2) (Nat.le_refl _)) rx).mono ?_); rintro e wn ⟨rR, rfl, hR1, hb1⟩; have hW2 := hW1.below hb1 (Nat.le_refl _))
      go_wp2_with fail
      refine hK.out _ _ (⟨cellK hb1 hS.1, cellK hb1 hS.2.1, cellK hb1 hS.2.2.1, cellK hb1 hS.2.2.2.1, cellK hb1 hS.2.2.2.2.1, cellK hb1 hS.2.2.2.2.2.1, cellK hb1 hS.2.2.2.2.2.2.1, cellK hb1 hS.2.2.2.2.2.2.2.1, cellK hb1 hS.2.2.2.2.2.2.2.2.1, cellK hb1 hS.2.2.2.2.2.2.2.2.2.1, cellK hb1 hS.2.2.2.2.2.2.2.2.2.2.1, cellK hb1 hS.2.2.2.2.2.2.2.2.2.2.2.1, cellK hb1 hS.2.2.2.2.2.2.2.2.2.2.2.2.1, cellK hb1 hS.2.2.2.2.2.2.2.2.2.2.2.2.2.1, cellK hb1 hS.2.2.2.2.2.2.2.2.2.2.2.2.2.2.1, cellK hb1 hS.2.2.2.2.2.2.2.2.2.2.2.2.2.2.2.1, cellK hb1 hS.2.2.2.2.2.2.2.2.2.2.2.2.2.2.2.2.1, cellK hb1 hS.2.2.2.2.2.2.2.2.2.2.2.2.2.2.2.2.2.1, cellK hb1 hS.2.2.2.2.2.2.2.2.2.2.2.2.2.2.2.2.2.2.1, cellK hb1 hS.2.2.2.2.2.2.2.2.2.2.2.2.2.2.2.2.2.2.2.1, (hS.2.2.2.2.2.2.2.2.2.2.2.2.2.2.2.2.2.2.2.2).trans (hb1.mono (hS.2.2.2.2.2.2.2.2.2.2.2.2.2.2.2.2.2.2.2.2).size)⟩) (fun hS => ?_)
      clear hK K hb1
      try simp only [Act.put, List.setIfInBounds_toArray, List.set_cons_zero, List.set_cons_succ]
      refine wpAnyH_ready (rs := [33]) (by kernel_rfl) (by simp) ?_
      refine AllReadyH.cons (o := { dst := some 64, op := Op.call { callee := Callee.value (Operand.func 42), args := #[Operand.tmp 63], argTypes := #[64] }, type := 58, pos := "law.go:41", after := #[{ on := 32, ground := Ground.data }, { on := 32, ground := Ground.chain }, { on := 28, ground := Ground.guard }], guard := some (28, true) }) rfl (fun K hK => ?_) AllReadyH.nil
      go_simp
      (go_at_call 42; (with_reducible refine (RForm2_any _ hR1 lN1 lN2).mono ?_); rintro e wn ⟨rF, rfl, hF1, hb1⟩; have hW3 := hW2.below hb1 (Nat.le_refl _))
      go_wp2_with fail
      refine hK.out _ _ (⟨cellK hb1 hS.1, cellK hb1 hS.2.1, cellK hb1 hS.2.2.1, cellK hb1 hS.2.2.2.1, cellK hb1 hS.2.2.2.2.1, cellK hb1 hS.2.2.2.2.2.1, cellK hb1 hS.2.2.2.2.2.2.1, cellK hb1 hS.2.2.2.2.2.2.2.1, cellK hb1 hS.2.2.2.2.2.2.2.2.1, cellK hb1 hS.2.2.2.2.2.2.2.2.2.1, cellK hb1 hS.2.2.2.2.2.2.2.2.2.2.1, cellK hb1 hS.2.2.2.2.2.2.2.2.2.2.2.1, cellK hb1 hS.2.2.2.2.2.2.2.2.2.2.2.2.1, cellK hb1 hS.2.2.2.2.2.2.2.2.2.2.2.2.2.1, cellK hb1 hS.2.2.2.2.2.2.2.2.2.2.2.2.2.2.1, cellK hb1 hS.2.2.2.2.2.2.2.2.2.2.2.2.2.2.2.1, cellK hb1 hS.2.2.2.2.2.2.2.2.2.2.2.2.2.2.2.2.1, cellK hb1 hS.2.2.2.2.2.2.2.2.2.2.2.2.2.2.2.2.2.1, cellK hb1 hS.2.2.2.2.2.2.2.2.2.2.2.2.2.2.2.2.2.2.1, cellK hb1 hS.2.2.2.2.2.2.2.2.2.2.2.2.2.2.2.2.2.2.2.1, (hS.2.2.2.2.2.2.2.2.2.2.2.2.2.2.2.2.2.2.2.2).trans (hb1.mono (hS.2.2.2.2.2.2.2.2.2.2.2.2.2.2.2.2.2.2.2.2).size)⟩) (fun hS => ?_)
      clear hK K hb1
      try simp only [Act.put, List.setIfInBounds_toArray, List.set_cons_zero, List.set_cons_succ]
      refine wpAnyH_ready (rs := [34]) (by kernel_rfl) (by simp) ?_
      refine AllReadyH.cons (o := { dst := some 65, op := Op.call { callee := Callee.value (Operand.func 40), args := #[Operand.tmp 61, Operand.tmp 64], argTypes := #[58, 58] }, type := 4, pos := "law.go:41", after := #[{ on := 30, ground := Ground.data }, { on := 33, ground := Ground.data }, { on := 33, ground := Ground.chain }, { on := 28, ground := Ground.guard }], guard := some (28, true) }) rfl (fun K hK => ?_) AllReadyH.nil
      go_simp
      (go_at_call 40; (with_reducible refine (Same3_true hW3 hF1 rfl zN).mono ?_); rintro e wn ⟨rfl, hb1⟩)
      go_wp2_with fail
      refine hK.out _ _ (⟨cellK hb1 hS.1, cellK hb1 hS.2.1, cellK hb1 hS.2.2.1, cellK hb1 hS.2.2.2.1, cellK hb1 hS.2.2.2.2.1, cellK hb1 hS.2.2.2.2.2.1, cellK hb1 hS.2.2.2.2.2.2.1, cellK hb1 hS.2.2.2.2.2.2.2.1, cellK hb1 hS.2.2.2.2.2.2.2.2.1, cellK hb1 hS.2.2.2.2.2.2.2.2.2.1, cellK hb1 hS.2.2.2.2.2.2.2.2.2.2.1, cellK hb1 hS.2.2.2.2.2.2.2.2.2.2.2.1, cellK hb1 hS.2.2.2.2.2.2.2.2.2.2.2.2.1, cellK hb1 hS.2.2.2.2.2.2.2.2.2.2.2.2.2.1, cellK hb1 hS.2.2.2.2.2.2.2.2.2.2.2.2.2.2.1, cellK hb1 hS.2.2.2.2.2.2.2.2.2.2.2.2.2.2.2.1, cellK hb1 hS.2.2.2.2.2.2.2.2.2.2.2.2.2.2.2.2.1, cellK hb1 hS.2.2.2.2.2.2.2.2.2.2.2.2.2.2.2.2.2.1, cellK hb1 hS.2.2.2.2.2.2.2.2.2.2.2.2.2.2.2.2.2.2.1, cellK hb1 hS.2.2.2.2.2.2.2.2.2.2.2.2.2.2.2.2.2.2.2.1, (hS.2.2.2.2.2.2.2.2.2.2.2.2.2.2.2.2.2.2.2.2).trans (hb1.mono (hS.2.2.2.2.2.2.2.2.2.2.2.2.2.2.2.2.2.2.2.2).size)⟩) (fun hS => ?_)
      clear hK K hb1
      try simp only [Act.put, List.setIfInBounds_toArray, List.set_cons_zero, List.set_cons_succ]
      refine wpAnyH_take (i := 35) (oi := { dst := some 66, op := Op.pick (Operand.tmp 59) (Operand.tmp 65) (Operand.const (Value.bool false)), type := 4, pos := "law.go:41", after := #[{ on := 28, ground := Ground.data }, { on := 34, ground := Ground.data }], guard := none }) (v := ?_) rfl (by kernel_rfl) (by kernel_rfl) (by kernel_rfl) (fun _ _ _ h => h) (Or.inl ⟨by rfl, ?_⟩) hS ?_
      rotate_left
      · (intro w' hSw; (try dsimp only at hSw); go_simp; try with_reducible rfl)
      try simp only [Act.put, List.setIfInBounds_toArray, List.set_cons_zero, List.set_cons_succ]
      refine wpAnyH_take (i := 36) (oi := { dst := some 67, op := Op.move (Operand.tmp 66), type := 4, pos := "law.go:41", after := #[{ on := 35, ground := Ground.data }, { on := 34, ground := Ground.chain }], guard := none }) (v := ?_) rfl (by kernel_rfl) (by kernel_rfl) (by kernel_rfl) (fun _ _ _ h => h) (Or.inl ⟨by rfl, ?_⟩) hS ?_
      rotate_left
      · (intro w' hSw; (try dsimp only at hSw); go_simp; try with_reducible rfl)
      try simp only [Act.put, List.setIfInBounds_toArray, List.set_cons_zero, List.set_cons_succ]
      refine wpAnyH_take (i := 37) (oi := { dst := some 68, op := Op.load 58 (Operand.tmp 2), type := 58, pos := "law.go:41", after := #[{ on := 36, ground := Ground.guard }], guard := some (36, true) }) (v := ?_) rfl (by kernel_rfl) (by kernel_rfl) (by kernel_rfl) (fun _ _ _ h => h) (Or.inl ⟨by rfl, ?_⟩) hS ?_
      rotate_left
      · (intro w' hSw; (try dsimp only at hSw); go_simp; try with_reducible rfl)
      try simp only [Act.put, List.setIfInBounds_toArray, List.set_cons_zero, List.set_cons_succ]
      refine wpAnyH_take (i := 38) (oi := { dst := some 69, op := Op.load 58 (Operand.tmp 3), type := 58, pos := "law.go:41", after := #[{ on := 36, ground := Ground.guard }], guard := some (36, true) }) (v := ?_) rfl (by kernel_rfl) (by kernel_rfl) (by kernel_rfl) (fun _ _ _ h => h) (Or.inl ⟨by rfl, ?_⟩) hS ?_
      rotate_left
      · (intro w' hSw; (try dsimp only at hSw); go_simp; try with_reducible rfl)
      try simp only [Act.put, List.setIfInBounds_toArray, List.set_cons_zero, List.set_cons_succ]
      refine wpAnyH_take (i := 40) (oi := { dst := some 71, op := Op.load 64 (Operand.tmp 5), type := 64, pos := "law.go:41", after := #[{ on := 36, ground := Ground.guard }], guard := some (36, true) }) (v := ?_) rfl (by kernel_rfl) (by kernel_rfl) (by kernel_rfl) (fun _ _ _ h => h) (Or.inl ⟨by rfl, ?_⟩) hS ?_
      rotate_left
      · (intro w' hSw; (try dsimp only at hSw); go_simp; try with_reducible rfl)
      try simp only [Act.put, List.setIfInBounds_toArray, List.set_cons_zero, List.set_cons_succ]
      refine wpAnyH_take (i := 41) (oi := { dst := some 72, op := Op.load 64 (Operand.tmp 6), type := 64, pos := "law.go:41", after := #[{ on := 36, ground := Ground.guard }], guard := some (36, true) }) (v := ?_) rfl (by kernel_rfl) (by kernel_rfl) (by kernel_rfl) (fun _ _ _ h => h) (Or.inl ⟨by rfl, ?_⟩) hS ?_
      rotate_left
      · (intro w' hSw; (try dsimp only at hSw); go_simp; try with_reducible rfl)
      try simp only [Act.put, List.setIfInBounds_toArray, List.set_cons_zero, List.set_cons_succ]
      refine wpAnyH_ready (rs := [39]) (by kernel_rfl) (by simp) ?_
      refine AllReadyH.cons (o := { dst := some 70, op := Op.call { callee := Callee.value (Operand.func 46), args := #[Operand.tmp 68, Operand.tmp 69], argTypes := #[58, 58] }, type := 3, pos := "law.go:41", after := #[{ on := 37, ground := Ground.data }, { on := 38, ground := Ground.data }, { on := 36, ground := Ground.chain }, { on := 36, ground := Ground.guard }], guard := some (36, true) }) rfl (fun K hK => ?_) AllReadyH.nil
      go_simp
      (go_at_call 46; (with_reducible refine (FCmp_at (hXw.below (hS.2.2.2.2.2.2.2.2.2.2.2.2.2.2.2.2.2.2.2.2) (Nat.le_refl _)) (hYw.below (hS.2.2.2.2.2.2.2.2.2.2.2.2.2.2.2.2.2.2.2.2) (Nat.le_refl _)) zx zy hord.out).mono ?_); rintro e wn ⟨rfl, hb1⟩)
      go_wp2_with fail
      refine hK.out _ _ (⟨cellK hb1 hS.1, cellK hb1 hS.2.1, cellK hb1 hS.2.2.1, cellK hb1 hS.2.2.2.1, cellK hb1 hS.2.2.2.2.1, cellK hb1 hS.2.2.2.2.2.1, cellK hb1 hS.2.2.2.2.2.2.1, cellK hb1 hS.2.2.2.2.2.2.2.1, cellK hb1 hS.2.2.2.2.2.2.2.2.1, cellK hb1 hS.2.2.2.2.2.2.2.2.2.1, cellK hb1 hS.2.2.2.2.2.2.2.2.2.2.1, cellK hb1 hS.2.2.2.2.2.2.2.2.2.2.2.1, cellK hb1 hS.2.2.2.2.2.2.2.2.2.2.2.2.1, cellK hb1 hS.2.2.2.2.2.2.2.2.2.2.2.2.2.1, cellK hb1 hS.2.2.2.2.2.2.2.2.2.2.2.2.2.2.1, cellK hb1 hS.2.2.2.2.2.2.2.2.2.2.2.2.2.2.2.1, cellK hb1 hS.2.2.2.2.2.2.2.2.2.2.2.2.2.2.2.2.1, cellK hb1 hS.2.2.2.2.2.2.2.2.2.2.2.2.2.2.2.2.2.1, cellK hb1 hS.2.2.2.2.2.2.2.2.2.2.2.2.2.2.2.2.2.2.1, cellK hb1 hS.2.2.2.2.2.2.2.2.2.2.2.2.2.2.2.2.2.2.2.1, (hS.2.2.2.2.2.2.2.2.2.2.2.2.2.2.2.2.2.2.2.2).trans (hb1.mono (hS.2.2.2.2.2.2.2.2.2.2.2.2.2.2.2.2.2.2.2.2).size)⟩) (fun hS => ?_)
      clear hK K hb1
      try simp only [Act.put, List.setIfInBounds_toArray, List.set_cons_zero, List.set_cons_succ]
      refine wpAnyH_ready (rs := [42]) (by kernel_rfl) (by simp) ?_
      refine AllReadyH.cons (o := { dst := some 73, op := Op.call { callee := Callee.value (Operand.func 58), args := #[Operand.tmp 71, Operand.tmp 72], argTypes := #[64, 64] }, type := 3, pos := "law.go:41", after := #[{ on := 40, ground := Ground.data }, { on := 41, ground := Ground.data }, { on := 39, ground := Ground.chain }, { on := 36, ground := Ground.guard }], guard := some (36, true) }) rfl (fun K hK => ?_) AllReadyH.nil
      go_simp
      (go_at_call 58; (with_reducible refine (RCmp2_at (ha.below (hS.2.2.2.2.2.2.2.2.2.2.2.2.2.2.2.2.2.2.2.2) (Nat.le_refl _)) (hb.below (hS.2.2.2.2.2.2.2.2.2.2.2.2.2.2.2.2.2.2.2.2) (Nat.le_refl _)) rx ry hord.out).mono ?_); rintro e wn ⟨rfl, hb1⟩)
      go_wp2_with fail
      refine hK.out _ _ (⟨cellK hb1 hS.1, cellK hb1 hS.2.1, cellK hb1 hS.2.2.1, cellK hb1 hS.2.2.2.1, cellK hb1 hS.2.2.2.2.1, cellK hb1 hS.2.2.2.2.2.1, cellK hb1 hS.2.2.2.2.2.2.1, cellK hb1 hS.2.2.2.2.2.2.2.1, cellK hb1 hS.2.2.2.2.2.2.2.2.1, cellK hb1 hS.2.2.2.2.2.2.2.2.2.1, cellK hb1 hS.2.2.2.2.2.2.2.2.2.2.1, cellK hb1 hS.2.2.2.2.2.2.2.2.2.2.2.1, cellK hb1 hS.2.2.2.2.2.2.2.2.2.2.2.2.1, cellK hb1 hS.2.2.2.2.2.2.2.2.2.2.2.2.2.1, cellK hb1 hS.2.2.2.2.2.2.2.2.2.2.2.2.2.2.1, cellK hb1 hS.2.2.2.2.2.2.2.2.2.2.2.2.2.2.2.1, cellK hb1 hS.2.2.2.2.2.2.2.2.2.2.2.2.2.2.2.2.1, cellK hb1 hS.2.2.2.2.2.2.2.2.2.2.2.2.2.2.2.2.2.1, cellK hb1 hS.2.2.2.2.2.2.2.2.2.2.2.2.2.2.2.2.2.2.1, cellK hb1 hS.2.2.2.2.2.2.2.2.2.2.2.2.2.2.2.2.2.2.2.1, (hS.2.2.2.2.2.2.2.2.2.2.2.2.2.2.2.2.2.2.2.2).trans (hb1.mono (hS.2.2.2.2.2.2.2.2.2.2.2.2.2.2.2.2.2.2.2.2).size)⟩) (fun hS => ?_)
      clear hK K hb1
      try simp only [Act.put, List.setIfInBounds_toArray, List.set_cons_zero, List.set_cons_succ]
      refine wpAnyH_take (i := 43) (oi := { dst := some 74, op := Op.binOp BinOp.eql 3 (Operand.tmp 70) (Operand.tmp 73) 3, type := 4, pos := "law.go:41", after := #[{ on := 39, ground := Ground.data }, { on := 42, ground := Ground.data }, { on := 36, ground := Ground.guard }], guard := some (36, true) }) (v := ?_) rfl (by kernel_rfl) (by kernel_rfl) (by kernel_rfl) (fun _ _ _ h => h) (Or.inl ⟨by rfl, ?_⟩) hS ?_
      rotate_left
      · (intro w' hSw; (try dsimp only at hSw); go_simp; try with_reducible rfl)
      try simp only [Act.put, List.setIfInBounds_toArray, List.set_cons_zero, List.set_cons_succ]
      refine wpAnyH_take (i := 44) (oi := { dst := some 75, op := Op.pick (Operand.tmp 67) (Operand.tmp 74) (Operand.const (Value.bool false)), type := 4, pos := "law.go:41", after := #[{ on := 36, ground := Ground.data }, { on := 43, ground := Ground.data }], guard := none }) (v := ?_) rfl (by kernel_rfl) (by kernel_rfl) (by kernel_rfl) (fun _ _ _ h => h) (Or.inl ⟨by rfl, ?_⟩) hS ?_
      rotate_left
      · (intro w' hSw; (try dsimp only at hSw); go_simp; try with_reducible rfl)
      try simp only [Act.put, List.setIfInBounds_toArray, List.set_cons_zero, List.set_cons_succ]
      refine wpAnyH_take (i := 45) (oi := { dst := some 76, op := Op.move (Operand.tmp 75), type := 4, pos := "law.go:41", after := #[{ on := 44, ground := Ground.data }, { on := 42, ground := Ground.chain }], guard := none }) (v := ?_) rfl (by kernel_rfl) (by kernel_rfl) (by kernel_rfl) (fun _ _ _ h => h) (Or.inl ⟨by rfl, ?_⟩) hS ?_
      rotate_left
      · (intro w' hSw; (try dsimp only at hSw); go_simp; try with_reducible rfl)
      try simp only [Act.put, List.setIfInBounds_toArray, List.set_cons_zero, List.set_cons_succ]
      refine wpAnyH_take (i := 46) (oi := { dst := some 77, op := Op.load 58 (Operand.tmp 2), type := 58, pos := "law.go:41", after := #[{ on := 45, ground := Ground.guard }], guard := some (45, true) }) (v := ?_) rfl (by kernel_rfl) (by kernel_rfl) (by kernel_rfl) (fun _ _ _ h => h) (Or.inl ⟨by rfl, ?_⟩) hS ?_
      rotate_left
      · (intro w' hSw; (try dsimp only at hSw); go_simp; try with_reducible rfl)
      try simp only [Act.put, List.setIfInBounds_toArray, List.set_cons_zero, List.set_cons_succ]
      refine wpAnyH_take (i := 48) (oi := { dst := some 79, op := Op.load 64 (Operand.tmp 5), type := 64, pos := "law.go:41", after := #[{ on := 45, ground := Ground.guard }], guard := some (45, true) }) (v := ?_) rfl (by kernel_rfl) (by kernel_rfl) (by kernel_rfl) (fun _ _ _ h => h) (Or.inl ⟨by rfl, ?_⟩) hS ?_
      rotate_left
      · (intro w' hSw; (try dsimp only at hSw); go_simp; try with_reducible rfl)
      try simp only [Act.put, List.setIfInBounds_toArray, List.set_cons_zero, List.set_cons_succ]
      refine wpAnyH_ready (rs := [47]) (by kernel_rfl) (by simp) ?_
      refine AllReadyH.cons (o := { dst := some 78, op := Op.call { callee := Callee.value (Operand.func 59), args := #[Operand.tmp 77], argTypes := #[58] }, type := 9, pos := "law.go:41", after := #[{ on := 46, ground := Ground.data }, { on := 45, ground := Ground.chain }, { on := 45, ground := Ground.guard }], guard := some (45, true) }) rfl (fun K hK => ?_) AllReadyH.nil
      go_simp
      (go_at_call 59; (with_reducible refine (FText_any _ (hXw.below (hS.2.2.2.2.2.2.2.2.2.2.2.2.2.2.2.2.2.2.2.2) (Nat.le_refl _)) tx20 (htw.atBelow (hS.2.2.2.2.2.2.2.2.2.2.2.2.2.2.2.2.2.2.2.2) (Nat.le_refl _))).mono ?_); rintro e wn ⟨rfl, hb1⟩)
      go_wp2_with fail
      refine hK.out _ _ (⟨cellK hb1 hS.1, cellK hb1 hS.2.1, cellK hb1 hS.2.2.1, cellK hb1 hS.2.2.2.1, cellK hb1 hS.2.2.2.2.1, cellK hb1 hS.2.2.2.2.2.1, cellK hb1 hS.2.2.2.2.2.2.1, cellK hb1 hS.2.2.2.2.2.2.2.1, cellK hb1 hS.2.2.2.2.2.2.2.2.1, cellK hb1 hS.2.2.2.2.2.2.2.2.2.1, cellK hb1 hS.2.2.2.2.2.2.2.2.2.2.1, cellK hb1 hS.2.2.2.2.2.2.2.2.2.2.2.1, cellK hb1 hS.2.2.2.2.2.2.2.2.2.2.2.2.1, cellK hb1 hS.2.2.2.2.2.2.2.2.2.2.2.2.2.1, cellK hb1 hS.2.2.2.2.2.2.2.2.2.2.2.2.2.2.1, cellK hb1 hS.2.2.2.2.2.2.2.2.2.2.2.2.2.2.2.1, cellK hb1 hS.2.2.2.2.2.2.2.2.2.2.2.2.2.2.2.2.1, cellK hb1 hS.2.2.2.2.2.2.2.2.2.2.2.2.2.2.2.2.2.1, cellK hb1 hS.2.2.2.2.2.2.2.2.2.2.2.2.2.2.2.2.2.2.1, cellK hb1 hS.2.2.2.2.2.2.2.2.2.2.2.2.2.2.2.2.2.2.2.1, (hS.2.2.2.2.2.2.2.2.2.2.2.2.2.2.2.2.2.2.2.2).trans (hb1.mono (hS.2.2.2.2.2.2.2.2.2.2.2.2.2.2.2.2.2.2.2.2).size)⟩) (fun hS => ?_)
      clear hK K hb1
      try simp only [Act.put, List.setIfInBounds_toArray, List.set_cons_zero, List.set_cons_succ]
      refine wpAnyH_ready (rs := [49]) (by kernel_rfl) (by simp) ?_
      refine AllReadyH.cons (o := { dst := some 80, op := Op.call { callee := Callee.value (Operand.func 60), args := #[Operand.tmp 79], argTypes := #[64] }, type := 9, pos := "law.go:41", after := #[{ on := 48, ground := Ground.data }, { on := 47, ground := Ground.chain }, { on := 45, ground := Ground.guard }], guard := some (45, true) }) rfl (fun K hK => ?_) AllReadyH.nil
      go_simp
      (go_at_call 60; (with_reducible refine (RText2_any _ (ha.below (hS.2.2.2.2.2.2.2.2.2.2.2.2.2.2.2.2.2.2.2.2) (Nat.le_refl _)) tx20).mono ?_); rintro e wn ⟨rfl, hb1⟩)
      go_wp2_with fail
      refine hK.out _ _ (⟨cellK hb1 hS.1, cellK hb1 hS.2.1, cellK hb1 hS.2.2.1, cellK hb1 hS.2.2.2.1, cellK hb1 hS.2.2.2.2.1, cellK hb1 hS.2.2.2.2.2.1, cellK hb1 hS.2.2.2.2.2.2.1, cellK hb1 hS.2.2.2.2.2.2.2.1, cellK hb1 hS.2.2.2.2.2.2.2.2.1, cellK hb1 hS.2.2.2.2.2.2.2.2.2.1, cellK hb1 hS.2.2.2.2.2.2.2.2.2.2.1, cellK hb1 hS.2.2.2.2.2.2.2.2.2.2.2.1, cellK hb1 hS.2.2.2.2.2.2.2.2.2.2.2.2.1, cellK hb1 hS.2.2.2.2.2.2.2.2.2.2.2.2.2.1, cellK hb1 hS.2.2.2.2.2.2.2.2.2.2.2.2.2.2.1, cellK hb1 hS.2.2.2.2.2.2.2.2.2.2.2.2.2.2.2.1, cellK hb1 hS.2.2.2.2.2.2.2.2.2.2.2.2.2.2.2.2.1, cellK hb1 hS.2.2.2.2.2.2.2.2.2.2.2.2.2.2.2.2.2.1, cellK hb1 hS.2.2.2.2.2.2.2.2.2.2.2.2.2.2.2.2.2.2.1, cellK hb1 hS.2.2.2.2.2.2.2.2.2.2.2.2.2.2.2.2.2.2.2.1, (hS.2.2.2.2.2.2.2.2.2.2.2.2.2.2.2.2.2.2.2.2).trans (hb1.mono (hS.2.2.2.2.2.2.2.2.2.2.2.2.2.2.2.2.2.2.2.2).size)⟩) (fun hS => ?_)
      clear hK K hb1
      try simp only [Act.put, List.setIfInBounds_toArray, List.set_cons_zero, List.set_cons_succ]
      refine wpAnyH_take (i := 50) (oi := { dst := some 81, op := Op.binOp BinOp.eql 9 (Operand.tmp 78) (Operand.tmp 80) 9, type := 4, pos := "law.go:41", after := #[{ on := 47, ground := Ground.data }, { on := 49, ground := Ground.data }, { on := 45, ground := Ground.guard }], guard := some (45, true) }) (v := ?_) rfl (by kernel_rfl) (by kernel_rfl) (by kernel_rfl) (fun _ _ _ h => h) (Or.inl ⟨by rfl, ?_⟩) hS ?_
      rotate_left
      · (intro w' hSw; (try dsimp only at hSw); go_simp; try with_reducible rfl)
      try simp only [Act.put, List.setIfInBounds_toArray, List.set_cons_zero, List.set_cons_succ]
      refine wpAnyH_take (i := 51) (oi := { dst := some 82, op := Op.pick (Operand.tmp 76) (Operand.tmp 81) (Operand.const (Value.bool false)), type := 4, pos := "law.go:41", after := #[{ on := 45, ground := Ground.data }, { on := 50, ground := Ground.data }], guard := none }) (v := ?_) rfl (by kernel_rfl) (by kernel_rfl) (by kernel_rfl) (fun _ _ _ h => h) (Or.inl ⟨by rfl, ?_⟩) hS ?_
      rotate_left
      · (intro w' hSw; (try dsimp only at hSw); go_simp; try with_reducible rfl)
      try simp only [Act.put, List.setIfInBounds_toArray, List.set_cons_zero, List.set_cons_succ]
      refine wpAnyH_take (i := 52) (oi := { dst := some 83, op := Op.move (Operand.tmp 82), type := 4, pos := "law.go:41", after := #[{ on := 51, ground := Ground.data }, { on := 49, ground := Ground.chain }], guard := none }) (v := ?_) rfl (by kernel_rfl) (by kernel_rfl) (by kernel_rfl) (fun _ _ _ h => h) (Or.inl ⟨by rfl, ?_⟩) hS ?_
      rotate_left
      · (intro w' hSw; (try dsimp only at hSw); go_simp; try with_reducible rfl)
      try simp only [Act.put, List.setIfInBounds_toArray, List.set_cons_zero, List.set_cons_succ]
      refine wpAnyH_take (i := 53) (oi := { dst := some 84, op := Op.load 24 (Operand.tmp 7), type := 24, pos := "law.go:41", after := #[{ on := 52, ground := Ground.guard }], guard := some (52, true) }) (v := ?_) rfl (by kernel_rfl) (by kernel_rfl) (by kernel_rfl) (fun _ _ _ h => h) (Or.inl ⟨by rfl, ?_⟩) hS ?_
      rotate_left
      · (intro w' hSw; (try dsimp only at hSw); go_simp; try with_reducible rfl)
      try simp only [Act.put, List.setIfInBounds_toArray, List.set_cons_zero, List.set_cons_succ]
      refine wpAnyH_take (i := 54) (oi := { dst := some 85, op := Op.load 30 (Operand.tmp 9), type := 30, pos := "law.go:41", after := #[{ on := 52, ground := Ground.guard }], guard := some (52, true) }) (v := ?_) rfl (by kernel_rfl) (by kernel_rfl) (by kernel_rfl) (fun _ _ _ h => h) (Or.inl ⟨by rfl, ?_⟩) hS ?_
      rotate_left
      · (intro w' hSw; (try dsimp only at hSw); go_simp; try with_reducible rfl)
      try simp only [Act.put, List.setIfInBounds_toArray, List.set_cons_zero, List.set_cons_succ]
      refine wpAnyH_ready (rs := [55]) (by kernel_rfl) (by simp) ?_
      refine AllReadyH.cons (o := { dst := some 86, op := Op.call { callee := Callee.value (Operand.func 15), args := #[Operand.tmp 85], argTypes := #[30] }, type := 24, pos := "law.go:41", after := #[{ on := 54, ground := Ground.data }, { on := 52, ground := Ground.chain }, { on := 52, ground := Ground.guard }], guard := some (52, true) }) rfl (fun K hK => ?_) AllReadyH.nil
      go_simp
      (go_at_call 15; (with_reducible refine (Form_any _ (hv.below (hS.2.2.2.2.2.2.2.2.2.2.2.2.2.2.2.2.2.2.2.2) (Nat.le_refl _)) dfl).mono ?_); rintro e wn ⟨rF, rfl, hF1, hb1⟩)
      go_wp2_with fail
      refine hK.out _ _ (⟨cellK hb1 hS.1, cellK hb1 hS.2.1, cellK hb1 hS.2.2.1, cellK hb1 hS.2.2.2.1, cellK hb1 hS.2.2.2.2.1, cellK hb1 hS.2.2.2.2.2.1, cellK hb1 hS.2.2.2.2.2.2.1, cellK hb1 hS.2.2.2.2.2.2.2.1, cellK hb1 hS.2.2.2.2.2.2.2.2.1, cellK hb1 hS.2.2.2.2.2.2.2.2.2.1, cellK hb1 hS.2.2.2.2.2.2.2.2.2.2.1, cellK hb1 hS.2.2.2.2.2.2.2.2.2.2.2.1, cellK hb1 hS.2.2.2.2.2.2.2.2.2.2.2.2.1, cellK hb1 hS.2.2.2.2.2.2.2.2.2.2.2.2.2.1, cellK hb1 hS.2.2.2.2.2.2.2.2.2.2.2.2.2.2.1, cellK hb1 hS.2.2.2.2.2.2.2.2.2.2.2.2.2.2.2.1, cellK hb1 hS.2.2.2.2.2.2.2.2.2.2.2.2.2.2.2.2.1, cellK hb1 hS.2.2.2.2.2.2.2.2.2.2.2.2.2.2.2.2.2.1, cellK hb1 hS.2.2.2.2.2.2.2.2.2.2.2.2.2.2.2.2.2.2.1, cellK hb1 hS.2.2.2.2.2.2.2.2.2.2.2.2.2.2.2.2.2.2.2.1, (hS.2.2.2.2.2.2.2.2.2.2.2.2.2.2.2.2.2.2.2.2).trans (hb1.mono (hS.2.2.2.2.2.2.2.2.2.2.2.2.2.2.2.2.2.2.2.2).size)⟩) (fun hS => ?_)
      clear hK K hb1
      try simp only [Act.put, List.setIfInBounds_toArray, List.set_cons_zero, List.set_cons_succ]
      refine wpAnyH_ready (rs := [56]) (by kernel_rfl) (by simp) ?_
      refine AllReadyH.cons (o := { dst := some 87, op := Op.call { callee := Callee.value (Operand.func 14), args := #[Operand.tmp 84, Operand.tmp 86], argTypes := #[24, 24] }, type := 4, pos := "law.go:41", after := #[{ on := 53, ground := Ground.data }, { on := 55, ground := Ground.data }, { on := 55, ground := Ground.chain }, { on := 52, ground := Ground.guard }], guard := some (52, true) }) rfl (fun K hK => ?_) AllReadyH.nil
      go_simp
      (go_at_call 14; (with_reducible refine (Same_true ((hu.below (hS.2.2.2.2.2.2.2.2.2.2.2.2.2.2.2.2.2.2.2.2) (Nat.le_refl _))) hF1 rfl sfl).mono ?_); rintro e wn ⟨rfl, hb1⟩)
      go_wp2_with fail
      refine hK.out _ _ (⟨cellK hb1 hS.1, cellK hb1 hS.2.1, cellK hb1 hS.2.2.1, cellK hb1 hS.2.2.2.1, cellK hb1 hS.2.2.2.2.1, cellK hb1 hS.2.2.2.2.2.1, cellK hb1 hS.2.2.2.2.2.2.1, cellK hb1 hS.2.2.2.2.2.2.2.1, cellK hb1 hS.2.2.2.2.2.2.2.2.1, cellK hb1 hS.2.2.2.2.2.2.2.2.2.1, cellK hb1 hS.2.2.2.2.2.2.2.2.2.2.1, cellK hb1 hS.2.2.2.2.2.2.2.2.2.2.2.1, cellK hb1 hS.2.2.2.2.2.2.2.2.2.2.2.2.1, cellK hb1 hS.2.2.2.2.2.2.2.2.2.2.2.2.2.1, cellK hb1 hS.2.2.2.2.2.2.2.2.2.2.2.2.2.2.1, cellK hb1 hS.2.2.2.2.2.2.2.2.2.2.2.2.2.2.2.1, cellK hb1 hS.2.2.2.2.2.2.2.2.2.2.2.2.2.2.2.2.1, cellK hb1 hS.2.2.2.2.2.2.2.2.2.2.2.2.2.2.2.2.2.1, cellK hb1 hS.2.2.2.2.2.2.2.2.2.2.2.2.2.2.2.2.2.2.1, cellK hb1 hS.2.2.2.2.2.2.2.2.2.2.2.2.2.2.2.2.2.2.2.1, (hS.2.2.2.2.2.2.2.2.2.2.2.2.2.2.2.2.2.2.2.2).trans (hb1.mono (hS.2.2.2.2.2.2.2.2.2.2.2.2.2.2.2.2.2.2.2.2).size)⟩) (fun hS => ?_)
      clear hK K hb1
      try simp only [Act.put, List.setIfInBounds_toArray, List.set_cons_zero, List.set_cons_succ]
      refine wpAnyH_take (i := 57) (oi := { dst := some 88, op := Op.pick (Operand.tmp 83) (Operand.tmp 87) (Operand.const (Value.bool false)), type := 4, pos := "law.go:41", after := #[{ on := 52, ground := Ground.data }, { on := 56, ground := Ground.data }], guard := none }) (v := ?_) rfl (by kernel_rfl) (by kernel_rfl) (by kernel_rfl) (fun _ _ _ h => h) (Or.inl ⟨by rfl, ?_⟩) hS ?_
      rotate_left
      · (intro w' hSw; (try dsimp only at hSw); go_simp; try with_reducible rfl)
      try simp only [Act.put, List.setIfInBounds_toArray, List.set_cons_zero, List.set_cons_succ]
      refine wpAnyH_take (i := 58) (oi := { dst := some 89, op := Op.move (Operand.tmp 88), type := 4, pos := "law.go:41", after := #[{ on := 57, ground := Ground.data }, { on := 56, ground := Ground.chain }], guard := none }) (v := ?_) rfl (by kernel_rfl) (by kernel_rfl) (by kernel_rfl) (fun _ _ _ h => h) (Or.inl ⟨by rfl, ?_⟩) hS ?_
      rotate_left
      · (intro w' hSw; (try dsimp only at hSw); go_simp; try with_reducible rfl)
      try simp only [Act.put, List.setIfInBounds_toArray, List.set_cons_zero, List.set_cons_succ]
      refine wpAnyH_take (i := 59) (oi := { dst := some 90, op := Op.move (Operand.tmp 8), type := 4, pos := "law.go:41", after := #[{ on := 58, ground := Ground.guard }], guard := some (58, true) }) (v := ?_) rfl (by kernel_rfl) (by kernel_rfl) (by kernel_rfl) (fun _ _ _ h => h) (Or.inl ⟨by rfl, ?_⟩) hS ?_
      rotate_left
      · (intro w' hSw; (try dsimp only at hSw); go_simp; try with_reducible rfl)
      try simp only [Act.put, List.setIfInBounds_toArray, List.set_cons_zero, List.set_cons_succ]
      refine wpAnyH_take (i := 60) (oi := { dst := some 91, op := Op.move (Operand.tmp 10), type := 4, pos := "law.go:41", after := #[{ on := 58, ground := Ground.guard }], guard := some (58, true) }) (v := ?_) rfl (by kernel_rfl) (by kernel_rfl) (by kernel_rfl) (fun _ _ _ h => h) (Or.inl ⟨by rfl, ?_⟩) hS ?_
      rotate_left
      · (intro w' hSw; (try dsimp only at hSw); go_simp; try with_reducible rfl)
      try simp only [Act.put, List.setIfInBounds_toArray, List.set_cons_zero, List.set_cons_succ]
      refine wpAnyH_take (i := 61) (oi := { dst := some 92, op := Op.binOp BinOp.eql 4 (Operand.tmp 90) (Operand.tmp 91) 4, type := 4, pos := "law.go:41", after := #[{ on := 59, ground := Ground.data }, { on := 60, ground := Ground.data }, { on := 58, ground := Ground.guard }], guard := some (58, true) }) (v := ?_) rfl (by kernel_rfl) (by kernel_rfl) (by kernel_rfl) (fun _ _ _ h => h) (Or.inl ⟨by rfl, ?_⟩) hS ?_
      rotate_left
      · (intro w' hSw; (try dsimp only at hSw); go_simp; try with_reducible rfl)
      try simp only [Act.put, List.setIfInBounds_toArray, List.set_cons_zero, List.set_cons_succ]
      refine wpAnyH_take (i := 62) (oi := { dst := some 93, op := Op.pick (Operand.tmp 89) (Operand.tmp 92) (Operand.const (Value.bool false)), type := 4, pos := "law.go:41", after := #[{ on := 58, ground := Ground.data }, { on := 61, ground := Ground.data }], guard := none }) (v := ?_) rfl (by kernel_rfl) (by kernel_rfl) (by kernel_rfl) (fun _ _ _ h => h) (Or.inl ⟨by rfl, ?_⟩) hS ?_
      rotate_left
      · (intro w' hSw; (try dsimp only at hSw); go_simp; try with_reducible rfl)
      try simp only [Act.put, List.setIfInBounds_toArray, List.set_cons_zero, List.set_cons_succ]
      refine wpAnyH_take (i := 63) (oi := { dst := some 4, op := Op.assign (Operand.tmp 93), type := 4, pos := "law.go:41", after := ([{ on := 62, ground := Ground.data }, { on := 58, ground := Ground.chain }, { on := 0, ground := Ground.phase }, { on := 1, ground := Ground.phase }, { on := 2, ground := Ground.phase }, { on := 3, ground := Ground.phase }, { on := 4, ground := Ground.phase }, { on := 5, ground := Ground.phase }, { on := 6, ground := Ground.phase }, { on := 7, ground := Ground.phase }, { on := 8, ground := Ground.phase }, { on := 9, ground := Ground.phase }, { on := 10, ground := Ground.phase }, { on := 11, ground := Ground.phase }, { on := 12, ground := Ground.phase }, { on := 13, ground := Ground.phase }, { on := 14, ground := Ground.phase }, { on := 15, ground := Ground.phase }, { on := 16, ground := Ground.phase }, { on := 17, ground := Ground.phase }, { on := 18, ground := Ground.phase }, { on := 19, ground := Ground.phase }, { on := 20, ground := Ground.phase }, { on := 21, ground := Ground.phase }, { on := 22, ground := Ground.phase }, { on := 23, ground := Ground.phase }, { on := 24, ground := Ground.phase }, { on := 25, ground := Ground.phase }, { on := 26, ground := Ground.phase }, { on := 27, ground := Ground.phase }, { on := 28, ground := Ground.phase }, { on := 29, ground := Ground.phase }].append [{ on := 30, ground := Ground.phase }, { on := 31, ground := Ground.phase }, { on := 32, ground := Ground.phase }, { on := 33, ground := Ground.phase }, { on := 34, ground := Ground.phase }, { on := 35, ground := Ground.phase }, { on := 36, ground := Ground.phase }, { on := 37, ground := Ground.phase }, { on := 38, ground := Ground.phase }, { on := 39, ground := Ground.phase }, { on := 40, ground := Ground.phase }, { on := 41, ground := Ground.phase }, { on := 42, ground := Ground.phase }, { on := 43, ground := Ground.phase }, { on := 44, ground := Ground.phase }, { on := 45, ground := Ground.phase }, { on := 46, ground := Ground.phase }, { on := 47, ground := Ground.phase }, { on := 48, ground := Ground.phase }, { on := 49, ground := Ground.phase }, { on := 50, ground := Ground.phase }, { on := 51, ground := Ground.phase }, { on := 52, ground := Ground.phase }, { on := 53, ground := Ground.phase }, { on := 54, ground := Ground.phase }, { on := 55, ground := Ground.phase }, { on := 56, ground := Ground.phase }, { on := 57, ground := Ground.phase }, { on := 58, ground := Ground.phase }, { on := 59, ground := Ground.phase }, { on := 60, ground := Ground.phase }, { on := 61, ground := Ground.phase }, { on := 62, ground := Ground.phase }]).toArray, guard := none }) (v := ?_) rfl (by kernel_rfl) (by kernel_rfl) (by kernel_rfl) (fun _ _ _ h => h) (Or.inl ⟨by rfl, ?_⟩) hS ?_
      rotate_left
      · (intro w' hSw; (try dsimp only at hSw); go_simp; try with_reducible rfl)
      try simp only [Act.put, List.setIfInBounds_toArray, List.set_cons_zero, List.set_cons_succ]
      refine wpAnyH_done (by kernel_rfl) ?_ _
      have hfin := sb.trans ((hS.2.2.2.2.2.2.2.2.2.2.2.2.2.2.2.2.2.2.2.2).mono sb.size)
      clear hS cx0 cx1 cx2 cx3 cy0 cy1 cy2 cy3 s0 s1 s2 s3 t0 t1 t2 t3 u0 u1 v0 v1
      go_wp2_with fail
      go_ret
      exact ⟨by simp, hfin⟩
end Go.Proofs.YthpibilefdmemaaDoor
