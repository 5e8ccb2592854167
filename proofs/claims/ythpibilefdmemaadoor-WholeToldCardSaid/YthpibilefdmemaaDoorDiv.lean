/- whole.Div: by its contract. -/
import Derived.Test.YthpibilefdmemaaDoorDivide
import Derived.Test.YthpibilefdmemaaDoorNeg
import Derived.Test.YthpibilefdmemaaDoorDivLaw
namespace Go.Proofs.YthpibilefdmemaaDoor
open Go.RowKit

/-- What Div leaves. -/
def DivPost (w : World) (x y : Int) (e : Ending) (w' : World) : Prop :=
  ∃ q r, e = .returned (.tuple #[q, r]) ∧ IntV w' q (if y = 0 then 0 else x / y) ∧ IntV w' r (if y = 0 then 0 else x % y) ∧ Below w.heap.size w w'

theorem rest_parts {w : World} {v : Value} {n : Nat} (h : IntV w v (signZ false n)) : ∃ a cap, v = .agg #[.bool false, .slice a (dg BB n).length cap] ∧ Fit a (dg BB n).length cap ∧ Dg .u32 w a (dg BB n) := by
  have e : signZ false n = (n : Int) := by simp [signZ]
  rw [e] at h
  obtain ⟨a, cap, hv, hf, hd⟩ := h
  have e1 : decide ((n : Int) < 0) = false := by simp
  rw [e1, Int.natAbs_natCast] at hv
  rw [Int.natAbs_natCast] at hf hd
  exact ⟨a, cap, hv, hf, hd⟩

section
variable {w c w1 : World} {gs : List Nat} {g2 g3 G : Nat} {p q p' q' r0 r1 : Value}
theorem keep3 (h : c.cell? ⟨G, 0, none⟩ = some r0 ∧ c.cell? ⟨G, 1, none⟩ = some r1 ∧ c.frozen? ⟨G, 0, none⟩ = false ∧ c.frozen? ⟨G, 1, none⟩ = false ∧ c.cell? ⟨g2, 0, none⟩ = some p ∧ c.cell? ⟨g2, 1, none⟩ = some q ∧ c.cell? ⟨g3, 0, none⟩ = some p' ∧ c.cell? ⟨g3, 1, none⟩ = some q' ∧ c.frozen? ⟨g2, 0, none⟩ = false ∧ c.frozen? ⟨g2, 1, none⟩ = false ∧ c.frozen? ⟨g3, 0, none⟩ = false ∧ c.frozen? ⟨g3, 1, none⟩ = false ∧ Rs w gs c) (hb : Below c.heap.size c w1) : w1.cell? ⟨G, 0, none⟩ = some r0 ∧ w1.cell? ⟨G, 1, none⟩ = some r1 ∧ w1.frozen? ⟨G, 0, none⟩ = false ∧ w1.frozen? ⟨G, 1, none⟩ = false ∧ w1.cell? ⟨g2, 0, none⟩ = some p ∧ w1.cell? ⟨g2, 1, none⟩ = some q ∧ w1.cell? ⟨g3, 0, none⟩ = some p' ∧ w1.cell? ⟨g3, 1, none⟩ = some q' ∧ w1.frozen? ⟨g2, 0, none⟩ = false ∧ w1.frozen? ⟨g2, 1, none⟩ = false ∧ w1.frozen? ⟨g3, 0, none⟩ = false ∧ w1.frozen? ⟨g3, 1, none⟩ = false ∧ Rs w gs w1 := by
  obtain ⟨h1, h2, f1, f2, hS⟩ := h
  have l2 := World.block_lt_of_cell? c _ h1
  exact ⟨(hb.cell l2).trans h1, (hb.cell (p := ⟨G, 1, none⟩) l2).trans h2, (hb.frozen l2).trans f1, (hb.frozen (p := ⟨G, 1, none⟩) l2).trans f2, keep2 hS hb⟩
theorem keepC3 {g : Nat} (hw : w.heap.size ≤ g) (hg2 : g ≠ g2) (hg3 : g ≠ g3) (hgG : g ≠ G) (n : Bool) (a : Option Addr) (l m : Nat) (h : c.cell? ⟨G, 0, none⟩ = some r0 ∧ c.cell? ⟨G, 1, none⟩ = some r1 ∧ c.frozen? ⟨G, 0, none⟩ = false ∧ c.frozen? ⟨G, 1, none⟩ = false ∧ c.cell? ⟨g2, 0, none⟩ = some p ∧ c.cell? ⟨g2, 1, none⟩ = some q ∧ c.cell? ⟨g3, 0, none⟩ = some p' ∧ c.cell? ⟨g3, 1, none⟩ = some q' ∧ c.frozen? ⟨g2, 0, none⟩ = false ∧ c.frozen? ⟨g2, 1, none⟩ = false ∧ c.frozen? ⟨g3, 0, none⟩ = false ∧ c.frozen? ⟨g3, 1, none⟩ = false ∧ Rs w gs c) : ((c.setCell ⟨g, 0, none⟩ (.bool n)).setCell ⟨g, 1, none⟩ (.slice a l m)).cell? ⟨G, 0, none⟩ = some r0 ∧ ((c.setCell ⟨g, 0, none⟩ (.bool n)).setCell ⟨g, 1, none⟩ (.slice a l m)).cell? ⟨G, 1, none⟩ = some r1 ∧ ((c.setCell ⟨g, 0, none⟩ (.bool n)).setCell ⟨g, 1, none⟩ (.slice a l m)).frozen? ⟨G, 0, none⟩ = false ∧ ((c.setCell ⟨g, 0, none⟩ (.bool n)).setCell ⟨g, 1, none⟩ (.slice a l m)).frozen? ⟨G, 1, none⟩ = false ∧ ((c.setCell ⟨g, 0, none⟩ (.bool n)).setCell ⟨g, 1, none⟩ (.slice a l m)).cell? ⟨g2, 0, none⟩ = some p ∧ ((c.setCell ⟨g, 0, none⟩ (.bool n)).setCell ⟨g, 1, none⟩ (.slice a l m)).cell? ⟨g2, 1, none⟩ = some q ∧ ((c.setCell ⟨g, 0, none⟩ (.bool n)).setCell ⟨g, 1, none⟩ (.slice a l m)).cell? ⟨g3, 0, none⟩ = some p' ∧ ((c.setCell ⟨g, 0, none⟩ (.bool n)).setCell ⟨g, 1, none⟩ (.slice a l m)).cell? ⟨g3, 1, none⟩ = some q' ∧ ((c.setCell ⟨g, 0, none⟩ (.bool n)).setCell ⟨g, 1, none⟩ (.slice a l m)).frozen? ⟨g2, 0, none⟩ = false ∧ ((c.setCell ⟨g, 0, none⟩ (.bool n)).setCell ⟨g, 1, none⟩ (.slice a l m)).frozen? ⟨g2, 1, none⟩ = false ∧ ((c.setCell ⟨g, 0, none⟩ (.bool n)).setCell ⟨g, 1, none⟩ (.slice a l m)).frozen? ⟨g3, 0, none⟩ = false ∧ ((c.setCell ⟨g, 0, none⟩ (.bool n)).setCell ⟨g, 1, none⟩ (.slice a l m)).frozen? ⟨g3, 1, none⟩ = false ∧ Rs w gs ((c.setCell ⟨g, 0, none⟩ (.bool n)).setCell ⟨g, 1, none⟩ (.slice a l m)) := by
  obtain ⟨h1, h2, f1, f2, hS⟩ := h
  refine ⟨?_, ?_, by simpa using f1, by simpa using f2, keepC2 hw hg2 hg3 n a l m hS⟩
  · rw [World.cell?_setCell_other _ _ _ _ (fun e => hgG (congrArg Addr.block e)), World.cell?_setCell_other _ _ _ _ (fun e => hgG (congrArg Addr.block e))]; exact h1
  · rw [World.cell?_setCell_other _ _ _ _ (fun e => hgG (congrArg Addr.block e)), World.cell?_setCell_other _ _ _ _ (fun e => hgG (congrArg Addr.block e))]; exact h2
theorem keepSet3 (hw : w.heap.size ≤ G) (hg2 : G ≠ g2) (hg3 : G ≠ g3) (hgs : G ∉ gs) (x y : Value) (h : c.cell? ⟨G, 0, none⟩ = some r0 ∧ c.cell? ⟨G, 1, none⟩ = some r1 ∧ c.frozen? ⟨G, 0, none⟩ = false ∧ c.frozen? ⟨G, 1, none⟩ = false ∧ c.cell? ⟨g2, 0, none⟩ = some p ∧ c.cell? ⟨g2, 1, none⟩ = some q ∧ c.cell? ⟨g3, 0, none⟩ = some p' ∧ c.cell? ⟨g3, 1, none⟩ = some q' ∧ c.frozen? ⟨g2, 0, none⟩ = false ∧ c.frozen? ⟨g2, 1, none⟩ = false ∧ c.frozen? ⟨g3, 0, none⟩ = false ∧ c.frozen? ⟨g3, 1, none⟩ = false ∧ Rs w gs c) : ((c.setCell ⟨G, 0, none⟩ x).setCell ⟨G, 1, none⟩ y).cell? ⟨G, 0, none⟩ = some x ∧ ((c.setCell ⟨G, 0, none⟩ x).setCell ⟨G, 1, none⟩ y).cell? ⟨G, 1, none⟩ = some y ∧ ((c.setCell ⟨G, 0, none⟩ x).setCell ⟨G, 1, none⟩ y).frozen? ⟨G, 0, none⟩ = false ∧ ((c.setCell ⟨G, 0, none⟩ x).setCell ⟨G, 1, none⟩ y).frozen? ⟨G, 1, none⟩ = false ∧ ((c.setCell ⟨G, 0, none⟩ x).setCell ⟨G, 1, none⟩ y).cell? ⟨g2, 0, none⟩ = some p ∧ ((c.setCell ⟨G, 0, none⟩ x).setCell ⟨G, 1, none⟩ y).cell? ⟨g2, 1, none⟩ = some q ∧ ((c.setCell ⟨G, 0, none⟩ x).setCell ⟨G, 1, none⟩ y).cell? ⟨g3, 0, none⟩ = some p' ∧ ((c.setCell ⟨G, 0, none⟩ x).setCell ⟨G, 1, none⟩ y).cell? ⟨g3, 1, none⟩ = some q' ∧ ((c.setCell ⟨G, 0, none⟩ x).setCell ⟨G, 1, none⟩ y).frozen? ⟨g2, 0, none⟩ = false ∧ ((c.setCell ⟨G, 0, none⟩ x).setCell ⟨G, 1, none⟩ y).frozen? ⟨g2, 1, none⟩ = false ∧ ((c.setCell ⟨G, 0, none⟩ x).setCell ⟨G, 1, none⟩ y).frozen? ⟨g3, 0, none⟩ = false ∧ ((c.setCell ⟨G, 0, none⟩ x).setCell ⟨G, 1, none⟩ y).frozen? ⟨g3, 1, none⟩ = false ∧ Rs w gs ((c.setCell ⟨G, 0, none⟩ x).setCell ⟨G, 1, none⟩ y) := by
  obtain ⟨h1, h2, f1, f2, hS⟩ := h
  refine ⟨?_, ?_, by simpa using f1, by simpa using f2, keepFar hw hg2 hg3 hgs y (keepFar hw hg2 hg3 hgs x hS)⟩
  · rw [World.cell?_setCell_other _ _ _ _ (by simp)]; exact World.cell?_setCell_same _ _ _ h1
  · exact World.cell?_setCell_same _ _ _ ((World.cell?_setCell_other _ _ _ _ (by simp)).trans h2)
end
theorem dg_far {k : IntKind} {w : World} {a : Option Addr} {ds : List Nat} {G : Nat} {n : Bool} {sa : Option Addr} {sl sc : Nat} (h0 : w.cell? ⟨G, 0, none⟩ = some (.bool n)) (h1 : w.cell? ⟨G, 1, none⟩ = some (.slice sa sl sc)) (h : Dg k w a ds) (x y : Value) : Dg k ((w.setCell ⟨G, 0, none⟩ x).setCell ⟨G, 1, none⟩ y) a ds := by
  intro hn
  obtain ⟨p, off, e, hc⟩ := h hn
  refine ⟨p, off, e, fun i hi => ?_⟩
  have n0 : (⟨G, 0, none⟩ : Addr) ≠ ⟨p, off + i, none⟩ := fun e => by
    have := hc i hi
    rw [← e, h0] at this
    cases this
  have n1 : (⟨G, 1, none⟩ : Addr) ≠ ⟨p, off + i, none⟩ := fun e => by
    have := hc i hi
    rw [← e, h1] at this
    cases this
  rw [World.cell?_setCell_other _ _ _ _ n1, World.cell?_setCell_other _ _ _ _ n0]
  exact hc i hi

theorem fin2 {w c : World} {gs : List Nat} {g4 g5 : Nat} {n4 n5 : Bool} {a4 a5 : Option Addr} {l4 k4 l5 k5 : Nat} (h : Rs w gs c) (h4 : Blk c g4 24 #[.bool n4, .slice a4 l4 k4]) (h5 : Blk c g5 24 #[.bool n5, .slice a5 l5 k5]) (hne : g4 ≠ g5) (hw4 : w.heap.size ≤ g4) (hw5 : w.heap.size ≤ g5) (n : Bool) (a : Option Addr) (l k : Nat) (n' : Bool) (a' : Option Addr) (l' k' : Nat) :
    let F := (((c.setCell ⟨g4, 0, none⟩ (.bool n)).setCell ⟨g4, 1, none⟩ (.slice a l k)).setCell ⟨g5, 0, none⟩ (.bool n')).setCell ⟨g5, 1, none⟩ (.slice a' l' k')
    (F.cell? ⟨g4, 0, none⟩ = some (.bool n) ∧ F.cell? ⟨g4, 1, none⟩ = some (.slice a l k) ∧ ∀ i, F.frozen? ⟨g4, i, none⟩ = false) ∧ (F.cell? ⟨g5, 0, none⟩ = some (.bool n') ∧ F.cell? ⟨g5, 1, none⟩ = some (.slice a' l' k') ∧ ∀ i, F.frozen? ⟨g5, i, none⟩ = false) ∧ Below w.heap.size w F := by
  intro F
  have k4' := (((h4.two (.bool n) (.slice a l k)).far (p := ⟨g5, 0, none⟩) (by simpa using hne) (.bool n')).far (p := ⟨g5, 1, none⟩) (by simpa using hne) (.slice a' l' k'))
  have k5' := (((h5.far (p := ⟨g4, 0, none⟩) (by simpa using hne.symm) (.bool n)).far (p := ⟨g4, 1, none⟩) (by simpa using hne.symm) (.slice a l k)).two (.bool n') (.slice a' l' k'))
  exact ⟨k4'.c2, k5'.c2, (((h.1.setCell hw4 _).setCell hw4 _).setCell hw5 _).setCell hw5 _⟩

theorem rest_intV {w : World} {a : Option Addr} {cap n : Nat} (hf : Fit a (dg BB n).length cap) (hd : Dg .u32 w a (dg BB n)) : IntV w (.agg #[.bool false, .slice a (dg BB n).length cap]) (n : Int) := by
  refine ⟨a, cap, ?_, ?_, ?_⟩
  · rw [show decide ((n : Int) < 0) = false by simp, Int.natAbs_natCast]
  · rw [Int.natAbs_natCast]; exact hf
  · rw [Int.natAbs_natCast]; exact hd

theorem rest_nil {n : Nat} (hz : n = 0) : ∀ (w : World) (a : Option Addr) (cap : Nat), Fit a 0 cap → IntV w (.agg #[.bool false, .slice a 0 cap]) (n : Int) := by
  intro w a cap hf
  subst hz
  exact rest_intV (n := 0) hf (Dg.nil _ _)

theorem store2 {c : World} {v : Value} {z : Int} {g4 g5 : Nat} {n4 n5 : Bool} {a4 a5 : Option Addr} {l4 k4 l5 k5 : Nat} (h : IntV c v z) (h4 : Blk c g4 24 #[.bool n4, .slice a4 l4 k4]) (h5 : Blk c g5 24 #[.bool n5, .slice a5 l5 k5]) (hne : g4 ≠ g5) (x y x' y' : Value) : IntV ((((c.setCell ⟨g4, 0, none⟩ x).setCell ⟨g4, 1, none⟩ y).setCell ⟨g5, 0, none⟩ x').setCell ⟨g5, 1, none⟩ y') v z :=
  (h.store h4 x y).store ((h5.far (p := ⟨g4, 0, none⟩) (by simpa using hne.symm) x).far (p := ⟨g4, 1, none⟩) (by simpa using hne.symm) y) x' y'

set_option maxRecDepth 100000 in
set_option maxHeartbeats 3200000 in
theorem Div_any {x y : Int} {u v : Value} (w : World) (hx : IntV w u x) (hy : IntV w v y) (hn : Sm x) (hm : Sm y) :
    Calls Tryd.prog 23 #[u, v] w (DivPost w x y) := by
  generalize hP : DivPost w x y = Post
  have HP := hide hP
  clear hP
  obtain ⟨a, ca, rfl, ha, hda⟩ := id hx
  obtain ⟨b, cb, rfl, hb, hdb⟩ := id hy
  have HX0 := hx
  have HY0 := hy
  clear hx hy
  have hX0 : Blk ((((w.alloc (.cells #[.bool (decide (x < 0)), .slice a (dg BB x.natAbs).length ca] 24)).alloc (.cells #[.bool (decide (y < 0)), .slice b (dg BB y.natAbs).length cb] 24)).alloc (.cells #[.bool false, .slice none 0 0] 24)).alloc (.cells #[.bool false, .slice none 0 0] 24)) w.heap.size 24 #[.bool (decide (x < 0)), .slice a (dg BB x.natAbs).length ca] := (((Blk.new w _ _).alloc _).alloc _).alloc _
  have hY0 : Blk ((((w.alloc (.cells #[.bool (decide (x < 0)), .slice a (dg BB x.natAbs).length ca] 24)).alloc (.cells #[.bool (decide (y < 0)), .slice b (dg BB y.natAbs).length cb] 24)).alloc (.cells #[.bool false, .slice none 0 0] 24)).alloc (.cells #[.bool false, .slice none 0 0] 24)) (w.heap.size + 1) 24 #[.bool (decide (y < 0)), .slice b (dg BB y.natAbs).length cb] := by
    have h := Blk.new (w.alloc (.cells #[.bool (decide (x < 0)), .slice a (dg BB x.natAbs).length ca] 24)) 24 #[.bool (decide (y < 0)), .slice b (dg BB y.natAbs).length cb]
    rw [World.size_alloc] at h
    exact (h.alloc _).alloc _
  have hZ0 : Blk ((((w.alloc (.cells #[.bool (decide (x < 0)), .slice a (dg BB x.natAbs).length ca] 24)).alloc (.cells #[.bool (decide (y < 0)), .slice b (dg BB y.natAbs).length cb] 24)).alloc (.cells #[.bool false, .slice none 0 0] 24)).alloc (.cells #[.bool false, .slice none 0 0] 24)) (w.heap.size + 1 + 1) 24 #[.bool false, .slice none 0 0] := by
    have h := Blk.new ((w.alloc (.cells #[.bool (decide (x < 0)), .slice a (dg BB x.natAbs).length ca] 24)).alloc (.cells #[.bool (decide (y < 0)), .slice b (dg BB y.natAbs).length cb] 24)) 24 #[.bool false, .slice none 0 0]
    simp only [World.size_alloc] at h
    exact h.alloc _
  have hZ1 : Blk ((((w.alloc (.cells #[.bool (decide (x < 0)), .slice a (dg BB x.natAbs).length ca] 24)).alloc (.cells #[.bool (decide (y < 0)), .slice b (dg BB y.natAbs).length cb] 24)).alloc (.cells #[.bool false, .slice none 0 0] 24)).alloc (.cells #[.bool false, .slice none 0 0] 24)) (w.heap.size + 1 + 1 + 1) 24 #[.bool false, .slice none 0 0] := by
    have h := Blk.new (((w.alloc (.cells #[.bool (decide (x < 0)), .slice a (dg BB x.natAbs).length ca] 24)).alloc (.cells #[.bool (decide (y < 0)), .slice b (dg BB y.natAbs).length cb] 24)).alloc (.cells #[.bool false, .slice none 0 0] 24)) 24 #[.bool false, .slice none 0 0]
    simp only [World.size_alloc] at h
    exact h
  have hR0 : Rs w [w.heap.size + 1 + 1, w.heap.size + 1 + 1 + 1] ((((w.alloc (.cells #[.bool (decide (x < 0)), .slice a (dg BB x.natAbs).length ca] 24)).alloc (.cells #[.bool (decide (y < 0)), .slice b (dg BB y.natAbs).length cb] 24)).alloc (.cells #[.bool false, .slice none 0 0] 24)).alloc (.cells #[.bool false, .slice none 0 0] 24)) := by
    refine ⟨((((Below.refl w.heap.size w).alloc (Nat.le_refl _) _).alloc (by simp) _).alloc (by simp; omega) _).alloc (by simp; omega) _, ?_⟩
    intro g hg
    simp at hg
    rcases hg with rfl | rfl
    · exact ⟨_, _, _, _, hZ0⟩
    · exact ⟨_, _, _, _, hZ1⟩
  go_enter Tryd.func23, Tryd.ntmps23
  go_upto_region 1 with (fail)
  generalize (((w.alloc (.cells #[.bool (decide (x < 0)), .slice a (dg BB x.natAbs).length ca] 24)).alloc (.cells #[.bool (decide (y < 0)), .slice b (dg BB y.natAbs).length cb] 24)).alloc (.cells #[.bool false, .slice none 0 0] 24)).alloc (.cells #[.bool false, .slice none 0 0] 24) = W at hX0 hY0 hR0 hZ0 hZ1 ⊢
  clear hZ0 hZ1
  obtain ⟨c0, c1, cf⟩ := hX0.c2
  obtain ⟨d0, d1, df⟩ := hY0.c2
  have hR1 := hR0.drew
  have hwA : w.heap.size ≤ w.heap.size := Nat.le_refl _
  have hneA : w.heap.size ≠ w.heap.size + 1 := by omega
  have hwB : w.heap.size ≤ w.heap.size + 1 := by omega
  have hneB : w.heap.size + 1 ≠ w.heap.size := by omega
  have hgA : w.heap.size ∉ [w.heap.size + 1 + 1, w.heap.size + 1 + 1 + 1] := by simp only [List.mem_cons, List.mem_nil_iff, or_false]; omega
  have hgB : w.heap.size + 1 ∉ [w.heap.size + 1 + 1, w.heap.size + 1 + 1 + 1] := by simp only [List.mem_cons, List.mem_nil_iff, or_false]; omega
  have f20 := cf 0
  have f21 := cf 1
  have f30 := df 0
  have f31 := df 1
  have cxn := dg_canon BB2 x.natAbs
  have cyn := dg_canon BB2 y.natAbs
  have dxn : Digs BB (dg BB x.natAbs) := cxn.1
  have dyn : Digs BB (dg BB y.natAbs) := cyn.1
  have hsx : (dg BB x.natAbs).length ≤ 1099511627776 := hn
  have hsy : (dg BB y.natAbs).length ≤ 1099511627776 := hm
  have hvx := dg_val BB2 x.natAbs
  have hvy := dg_val BB2 y.natAbs
  have HX1 := hide hvx
  have HY1 := hide hvy
  have HF1 : Hid (decide (x < 0) = false → y ≠ 0 → signZ (false != decide (y < 0)) (val BB (dg BB x.natAbs) / val BB (dg BB y.natAbs)) = x / y ∧ ((val BB (dg BB x.natAbs) % val BB (dg BB y.natAbs) : Nat) : Int) = x % y) := hide (fun h h0 => by rw [hvx, hvy]; exact div_pos h0 (by simpa using h))
  have HF2 : Hid (decide (x < 0) = true → y ≠ 0 → val BB (dg BB x.natAbs) % val BB (dg BB y.natAbs) = 0 → signZ (true != decide (y < 0)) (val BB (dg BB x.natAbs) / val BB (dg BB y.natAbs)) = x / y ∧ 0 = x % y) := hide (fun h h0 h1 => by rw [hvx, hvy] at *; exact div_neg0 h0 (by simpa using h) h1)
  have HF3 : Hid (decide (x < 0) = true → y ≠ 0 → 0 < val BB (dg BB x.natAbs) % val BB (dg BB y.natAbs) → signZ (true != decide (y < 0)) (val BB (dg BB x.natAbs) / val BB (dg BB y.natAbs) + 1) = x / y ∧ ((val BB (dg BB y.natAbs) - val BB (dg BB x.natAbs) % val BB (dg BB y.natAbs) : Nat) : Int) = x % y) := hide (fun h h0 h1 => by rw [hvx, hvy] at *; exact div_neg1 h0 (by simpa using h) h1)
  clear hvx hvy
  generalize decide (x < 0) = nx at *
  generalize decide (y < 0) = ny at *
  generalize dg BB x.natAbs = dx at *
  generalize dg BB y.natAbs = dy at *
  go_region_held3 (fun w' => w'.cell? ⟨w.heap.size, 0, none⟩ = some (.bool nx) ∧ w'.cell? ⟨w.heap.size, 1, none⟩ = some (.slice a dx.length ca) ∧ w'.cell? ⟨w.heap.size + 1, 0, none⟩ = some (.bool ny) ∧ w'.cell? ⟨w.heap.size + 1, 1, none⟩ = some (.slice b dy.length cb) ∧ w'.frozen? ⟨w.heap.size, 0, none⟩ = false ∧ w'.frozen? ⟨w.heap.size, 1, none⟩ = false ∧ w'.frozen? ⟨w.heap.size + 1, 0, none⟩ = false ∧ w'.frozen? ⟨w.heap.size + 1, 1, none⟩ = false ∧ Rs w [w.heap.size + 1 + 1, w.heap.size + 1 + 1 + 1] w')
    (first | with_reducible exact keep2 (by assumption) hb1 | with_reducible exact keepA2 hwA hneA hgA (by assumption) | with_reducible exact keepB2 hwB hneB hgB (by assumption) | go_keep)
    (first
      | (go_at_call_of 63 (Value.agg #[.bool nx, .slice a dx.length ca]); (with_reducible refine (right_at HX0 hn (by go_split_ands; exact Rs.bel (by assumption))).mono ?_); rintro e w1 ⟨rfl, hb1⟩)
      | (go_at_call_of 63 (Value.agg #[.bool ny, .slice b dy.length cb]); (with_reducible refine (right_at HY0 hm (by go_split_ands; exact Rs.bel (by assumption))).mono ?_); rintro e w1 ⟨rfl, hb1⟩))
  rename_i hS
  generalize ((((w1.setCell _ _).setCell _ _).setCell _ _).setCell _ _) = W1 at hS ⊢
  clear c0 c1 cf d0 d1 df f20 f21 f30 f31 hb1 hX0 hY0 hR0 hR1
  obtain ⟨c0, c1, d0, d1, f20, f21, f30, f31, hR⟩ := hS
  have hda1 := hda.below hR.1 (Nat.le_refl _)
  have hdb1 := hdb.below hR.1 (Nat.le_refl _)
  have hg4 : w.heap.size + 1 + 1 ∈ [w.heap.size + 1 + 1, w.heap.size + 1 + 1 + 1] := by simp
  have hg5 : w.heap.size + 1 + 1 + 1 ∈ [w.heap.size + 1 + 1, w.heap.size + 1 + 1 + 1] := by simp
  by_cases hy0 : dy = []
  · subst hy0
    have hyz : y = 0 := by
      have := HY1.out
      simp [val] at this
      exact Int.natAbs_eq_zero.1 this.symm
    obtain ⟨_, _, _, _, k0, k1, kf0, kf1, hX4⟩ := Rs.at hR hg4 (Below.refl _ _)
    obtain ⟨_, _, _, _, m0, m1, mf0, mf1, hX5⟩ := Rs.at hR hg5 (Below.refl _ _)
    simp only [List.length_nil] at d1 ⊢
    go_wp2_with fail
    obtain ⟨⟨e0, e1, -⟩, ⟨e2, e3, -⟩, hRf⟩ := fin2 hR hX4 hX5 (by omega) (by omega) (by omega) false none 0 0 false none 0 0
    refine bodyPost_ret (v := .tuple #[.agg #[.bool false, .slice none 0 0], .agg #[.bool false, .slice none 0 0]]) (by simp [results, Tryd.results23, go_sem, e0, e1, e2, e3]) rfl ?_
    rw [← HP.out]
    exact ⟨_, _, rfl, by rw [if_pos hyz]; exact IntV.zero _, by rw [if_pos hyz]; exact IntV.zero _, hRf⟩
  · have hyz : y ≠ 0 := by
      rintro rfl
      have h1 := Canon.pos (by rw [BB_eq]; decide) cyn hy0
      have h2 := HY1.out
      simp at h2
      omega
    have hd0 : 0 < dy.length := List.length_pos_iff.2 hy0
    have e0 : ((dy.length : Int) == 0) = false := by simp; omega
    have hS1 : W1.cell? ⟨w.heap.size, 0, none⟩ = some (.bool nx) ∧ W1.cell? ⟨w.heap.size, 1, none⟩ = some (.slice a dx.length ca) ∧ W1.cell? ⟨w.heap.size + 1, 0, none⟩ = some (.bool ny) ∧ W1.cell? ⟨w.heap.size + 1, 1, none⟩ = some (.slice b dy.length cb) ∧ W1.frozen? ⟨w.heap.size, 0, none⟩ = false ∧ W1.frozen? ⟨w.heap.size, 1, none⟩ = false ∧ W1.frozen? ⟨w.heap.size + 1, 0, none⟩ = false ∧ W1.frozen? ⟨w.heap.size + 1, 1, none⟩ = false ∧ Rs w [w.heap.size + 1 + 1, w.heap.size + 1 + 1 + 1] W1 := ⟨c0, c1, d0, d1, f20, f21, f30, f31, hR⟩
    go_wp2_with fail
    refine (divide_any a b ca cb dx dy W1 hda1 hdb1 ha cxn cyn hy0 hsx).mono ?_
    rintro e w2 ⟨a1, c1', out, a2, c2, left, rfl, fo, fl, do1, dl1, go1, gl1, vo, vl, lo, ll, hb2⟩
    obtain ⟨rv, hrv⟩ : ∃ rv, rv = val BB dx % val BB dy := ⟨_, rfl⟩
    rw [← hrv] at vl
    have HVO := hide vo
    have HRV := hide hrv
    clear vo hrv
    have hS2 := keep2 hS1 hb2
    clear hS1 c0 c1 d0 d1 f20 f21 f30 f31 hR hda1 hdb1
    obtain ⟨c0, c1, d0, d1, f20, f21, f30, f31, hR⟩ := id hS2
    go_wp2_with fail
    refine (signed_any false a2 c2 left _ dl1 gl1 fl.le (by omega)).mono ?_
    rintro e w3 ⟨r, rfl, hrI, hb3⟩
    rw [vl] at hrI
    obtain ⟨ra, rc, rfl, hrf, hrd⟩ := rest_parts hrI
    clear vl
    have hS3 := keep2 hS2 hb3
    clear hS2 c0 c1 d0 d1 f20 f21 f30 f31 hR
    obtain ⟨c0, c1, d0, d1, f20, f21, f30, f31, hR⟩ := id hS3
    have hGlt : w.heap.size + 1 + 1 + 1 < w3.heap.size := by
      obtain ⟨_, _, _, _, hk⟩ := hR.2 _ hg5
      exact hk.lt
    have hG4 := Blk.new w3 24 #[.bool false, .slice ra (dg BB rv).length rc]
    have hb4 := (Below.refl _ w3).alloc (Nat.le_refl _) (.cells #[.bool false, .slice ra (dg BB rv).length rc] 24)
    have hS4 := keep2 hS3 hb4
    clear hb2 hS3
    go_upto_region 6 with (fail)
    generalize w3.alloc (.cells #[.bool false, .slice ra (dg BB rv).length rc] 24) = W4 at hG4 hb4 hS4 ⊢
    replace hrd := hrd.below hb4 (Nat.le_refl _)
    replace do1 := (do1.below hb3 (Nat.le_refl _)).below hb4 (Nat.le_refl _)
    clear c0 c1 d0 d1 f20 f21 f30 f31 hR hb3 hb4 hrI
    obtain ⟨c0, c1, d0, d1, f20, f21, f30, f31, hR⟩ := id hS4
    obtain ⟨g0, g1, gf⟩ := hG4.c2
    have gf0 := gf 0
    have gf1 := gf 1
    generalize w3.heap.size = G at *
    have hwC : w.heap.size ≤ w.heap.size + 1 + 1 := by omega
    have hgC2 : w.heap.size + 1 + 1 ≠ w.heap.size := by omega
    have hgC3 : w.heap.size + 1 + 1 ≠ w.heap.size + 1 := by omega
    have hgCG : w.heap.size + 1 + 1 ≠ G := by omega
    have hwD : w.heap.size ≤ w.heap.size + 1 + 1 + 1 := by omega
    have hgD2 : w.heap.size + 1 + 1 + 1 ≠ w.heap.size := by omega
    have hgD3 : w.heap.size + 1 + 1 + 1 ≠ w.heap.size + 1 := by omega
    have hgDG : w.heap.size + 1 + 1 + 1 ≠ G := by omega
    cases nx with
    | false =>
      go_upto_region 9 with (fail)
      clear HX0
      have HFF : Hid (signZ ny (val BB out) = x / y ∧ ((rv : Nat) : Int) = x % y) := hide (by rw [HVO.out, HRV.out]; have h := HF1.out rfl hyz; rw [Bool.false_bne] at h; exact h)
      have hR1 := hR.drew
      have hqd : Dg .u32 W4.drew a1 out := do1
      go_region_held3 (fun w' => w'.cell? ⟨G, 0, none⟩ = some (.bool false) ∧ w'.cell? ⟨G, 1, none⟩ = some (.slice ra (dg BB rv).length rc) ∧ w'.frozen? ⟨G, 0, none⟩ = false ∧ w'.frozen? ⟨G, 1, none⟩ = false ∧ w'.cell? ⟨w.heap.size, 0, none⟩ = some (.bool false) ∧ w'.cell? ⟨w.heap.size, 1, none⟩ = some (.slice a dx.length ca) ∧ w'.cell? ⟨w.heap.size + 1, 0, none⟩ = some (.bool ny) ∧ w'.cell? ⟨w.heap.size + 1, 1, none⟩ = some (.slice b dy.length cb) ∧ w'.frozen? ⟨w.heap.size, 0, none⟩ = false ∧ w'.frozen? ⟨w.heap.size, 1, none⟩ = false ∧ w'.frozen? ⟨w.heap.size + 1, 0, none⟩ = false ∧ w'.frozen? ⟨w.heap.size + 1, 1, none⟩ = false ∧ Rs w [w.heap.size + 1 + 1, w.heap.size + 1 + 1 + 1] w')
        (first | with_reducible exact keep3 (by assumption) hb1 | with_reducible exact keepC3 hwC hgC2 hgC3 hgCG _ _ _ _ (by assumption) | with_reducible exact keepC3 hwD hgD2 hgD3 hgDG _ _ _ _ (by assumption) | go_keep)
        (first | (go_at_call 61; refine (signed_any _ a1 c1' out _ hqd go1 fo.le (by omega)).mono ?_; rintro e w6 ⟨r, rfl, hrI, hb1⟩; obtain ⟨rn, rb, rl, rk, rfl⟩ := hrI.parts; obtain ⟨_, _, _, _, k0, k1, kf0, kf1, hX4⟩ := Rs.at (gs := [w.heap.size + 1 + 1, w.heap.size + 1 + 1 + 1]) hR1 hg4 hb1; obtain ⟨_, _, _, _, m0, m1, mf0, mf1, hX5⟩ := Rs.at (gs := [w.heap.size + 1 + 1, w.heap.size + 1 + 1 + 1]) hR1 hg5 hb1))
      rename_i hS
      clear hS
      obtain ⟨⟨e0, e1, -⟩, ⟨e2, e3, -⟩, hRf⟩ := fin2 (hR1.below hb1) hX4 hX5 (by omega) (by omega) (by omega) rn rb rl rk false ra (dg BB rv).length rc
      have hIq := store2 hrI hX4 hX5 (by omega) (.bool rn) (.slice rb rl rk) (.bool false) (.slice ra (dg BB rv).length rc)
      have hIr := store2 (rest_intV hrf ((show Dg .u32 W4.drew ra (dg BB rv) from hrd).below hb1 (Nat.le_refl _))) hX4 hX5 (by omega) (.bool rn) (.slice rb rl rk) (.bool false) (.slice ra (dg BB rv).length rc)
      obtain ⟨E1, E2⟩ := HFF.out
      rw [E1] at hIq
      rw [E2] at hIr
      go_wp2_with fail
      refine bodyPost_ret (v := .tuple #[.agg #[.bool rn, .slice rb rl rk], .agg #[.bool false, .slice ra (dg BB rv).length rc]]) (by simp [results, Tryd.results23, go_sem, e0, e1, e2, e3]) rfl ?_
      rw [← HP.out]
      exact ⟨_, _, rfl, by rw [if_neg hyz]; exact hIq, by rw [if_neg hyz]; exact hIr, hRf⟩
    | true =>
      rcases Nat.eq_zero_or_pos rv with hz | hz
      · have hl0 : (dg BB rv).length = 0 := by rw [hz]; rfl
        clear HX0
        have HFF : Hid (signZ (!ny) (val BB out) = x / y ∧ ((rv : Nat) : Int) = x % y) := hide (by
          have h := HF2.out rfl hyz (HRV.out.symm.trans hz)
          rw [Bool.true_bne] at h
          rw [HVO.out, hz]
          exact h)
        rw [hl0] at g1 hrf ⊢
        have HD := hide (rest_nil hz)
        clear hl0 hG4 hS4 hz hrd
        go_upto_region 9 with (fail)
        have hR1 := hR.drew
        have hqd : Dg .u32 W4.drew a1 out := do1
        go_region_held3 (fun w' => w'.cell? ⟨G, 0, none⟩ = some (.bool false) ∧ w'.cell? ⟨G, 1, none⟩ = some (.slice ra 0 rc) ∧ w'.frozen? ⟨G, 0, none⟩ = false ∧ w'.frozen? ⟨G, 1, none⟩ = false ∧ w'.cell? ⟨w.heap.size, 0, none⟩ = some (.bool true) ∧ w'.cell? ⟨w.heap.size, 1, none⟩ = some (.slice a dx.length ca) ∧ w'.cell? ⟨w.heap.size + 1, 0, none⟩ = some (.bool ny) ∧ w'.cell? ⟨w.heap.size + 1, 1, none⟩ = some (.slice b dy.length cb) ∧ w'.frozen? ⟨w.heap.size, 0, none⟩ = false ∧ w'.frozen? ⟨w.heap.size, 1, none⟩ = false ∧ w'.frozen? ⟨w.heap.size + 1, 0, none⟩ = false ∧ w'.frozen? ⟨w.heap.size + 1, 1, none⟩ = false ∧ Rs w [w.heap.size + 1 + 1, w.heap.size + 1 + 1 + 1] w')
          (first | with_reducible exact keep3 (by assumption) hb1 | with_reducible exact keepC3 hwC hgC2 hgC3 hgCG _ _ _ _ (by assumption) | with_reducible exact keepC3 hwD hgD2 hgD3 hgDG _ _ _ _ (by assumption) | go_keep)
          (first | (go_at_call 61; refine (signed_any _ a1 c1' out _ hqd go1 fo.le (by omega)).mono ?_; rintro e w6 ⟨r, rfl, hrI, hb1⟩; obtain ⟨rn, rb, rl, rk, rfl⟩ := hrI.parts; obtain ⟨_, _, _, _, k0, k1, kf0, kf1, hX4⟩ := Rs.at (gs := [w.heap.size + 1 + 1, w.heap.size + 1 + 1 + 1]) hR1 hg4 hb1; obtain ⟨_, _, _, _, m0, m1, mf0, mf1, hX5⟩ := Rs.at (gs := [w.heap.size + 1 + 1, w.heap.size + 1 + 1 + 1]) hR1 hg5 hb1))
        rename_i hS
        clear hS
        obtain ⟨⟨e0, e1, -⟩, ⟨e2, e3, -⟩, hRf⟩ := fin2 (hR1.below hb1) hX4 hX5 (by omega) (by omega) (by omega) rn rb rl rk false ra 0 rc
        have hIq := store2 hrI hX4 hX5 (by omega) (.bool rn) (.slice rb rl rk) (.bool false) (.slice ra 0 rc)
        have hIr := store2 (HD.out _ ra rc hrf) hX4 hX5 (by omega) (.bool rn) (.slice rb rl rk) (.bool false) (.slice ra 0 rc)
        obtain ⟨E1, E2⟩ := HFF.out
        rw [E1] at hIq
        rw [E2] at hIr
        go_wp2_with fail
        refine bodyPost_ret (v := .tuple #[.agg #[.bool rn, .slice rb rl rk], .agg #[.bool false, .slice ra 0 rc]]) (by simp [results, Tryd.results23, go_sem, e0, e1, e2, e3]) rfl ?_
        rw [← HP.out]
        exact ⟨_, _, rfl, by rw [if_neg hyz]; exact hIq, by rw [if_neg hyz]; exact hIr, hRf⟩
      · clear HX0
        have hlp : 0 < (dg BB rv).length := by
          rcases Nat.eq_zero_or_pos (dg BB rv).length with h | h
          · have := (dg_eq_nil BB2).1 (List.length_eq_zero_iff.1 h); omega
          · exact h
        have hlpd : decide (0 < (dg BB rv).length) = true := decide_eq_true hlp
        have hrlt : rv < val BB dy := by rw [HRV.out]; exact Nat.mod_lt _ (Canon.pos (by rw [BB_eq]; decide) cyn hy0)
        have hrle : (dg BB rv).length ≤ dy.length := by
          rcases Nat.lt_or_ge dy.length (dg BB rv).length with h | h
          · have := cyn.lt_of_len (dg_canon BB2 rv) h
            rw [dg_val BB2] at this
            omega
          · exact h
        have hrvv := dg_val BB2 rv
        have HV1 : Hid (val BB dy - val BB (dg BB rv) = val BB dy - rv) := hide (by rw [hrvv])
        have hvle : val BB (dg BB rv) ≤ val BB dy := by rw [hrvv]; omega
        have drn : Digs BB (dg BB rv) := (dg_canon BB2 rv).1
        have HF4 : Hid (signZ (!ny) (val BB out + 1) = x / y ∧ ((val BB dy - rv : Nat) : Int) = x % y) := hide (by
          have h := HF3.out rfl hyz (by rw [← HRV.out]; exact hz)
          rw [Bool.true_bne, ← HRV.out] at h
          rw [HVO.out]
          exact h)
        generalize dg BB rv = rd at *
        clear hrvv hlp hrlt
        have hS5 := keep3 ⟨g0, g1, gf0, gf1, hS4⟩ ((Below.refl _ W4).alloc (Nat.le_refl _) (.cells #[.int .u32 1] 81))
        have hone := dg_alloc1 W4 81 1
        have hout5 := do1.below ((Below.refl _ W4).alloc (Nat.le_refl _) (.cells #[.int .u32 1] 81)) (Nat.le_refl _)
        have hrd5 := hrd.below ((Below.refl _ W4).alloc (Nat.le_refl _) (.cells #[.int .u32 1] 81)) (Nat.le_refl _)
        clear hS4 hG4
        go_wp2_with fail
        refine (plus_any a1 _ c1' 1 out [1] _ hout5 hone go1 (fun d hd => by rw [List.mem_singleton] at hd; rw [hd, BB_eq]; decide) (by omega) (by decide)).mono ?_
        rintro e w5 ⟨pa, pc, ps, rfl, hpf, hpd, hpD, hpv, hpl, hb5⟩
        have hS6 := keep3 hS5 hb5
        have hrd6 := hrd5.below hb5 (Nat.le_refl _)
        have HPV : Hid (val BB ps = val BB out + 1) := hide (by rw [hpv]; simp [val])
        have hpl' : ps.length ≤ 4611686018427387904 := by simp at hpl; omega
        clear hS5 hrd5 hout5 hone hb5 hpv hpl c0 c1 d0 d1 f20 f21 f30 f31 hR g0 g1 gf gf0 gf1 hrd do1
        obtain ⟨g0, g1, gf0, gf1, c0, c1, d0, d1, f20, f21, f30, f31, hR⟩ := id hS6
        have hdb6 := hdb.below hR.1 (Nat.le_refl _)
        go_wp2_with fail
        refine (minus_any b ra cb rc dy rd _ hdb6 hrd6 dyn drn hsy hrle hvle).mono ?_
        rintro e w6 ⟨ma, mc, ms, rfl, hmf, hmd, hmD, hmv, hml, hb6⟩
        have hS7 := keep3 hS6 hb6
        have hpd7 := hpd.below hb6 (Nat.le_refl _)
        clear hS6 hpd hb6 c0 c1 d0 d1 f20 f21 f30 f31 hR g0 g1 gf0 gf1 hdb6 hrd6
        obtain ⟨g0, g1, gf0, gf1, c0, c1, d0, d1, f20, f21, f30, f31, hR⟩ := id hS7
        go_wp2_with fail
        refine (signed_any false ma mc ms _ hmd hmD hmf.le (by omega)).mono ?_
        rintro e w7 ⟨r, rfl, hrI, hb7⟩
        rw [hmv, HV1.out] at hrI
        have hS8 := keep3 hS7 hb7
        have hpd8 := hpd7.below hb7 (Nat.le_refl _)
        clear hS7 hpd7 hb7 hmv hml hmd c0 c1 d0 d1 f20 f21 f30 f31 hR g0 g1 gf0 gf1 hrf
        obtain ⟨na, nc, rfl, hrf, hrd⟩ := rest_parts hrI
        obtain ⟨g0, g1, gf0, gf1, c0, c1, d0, d1, f20, f21, f30, f31, hR⟩ := id hS8
        have hS9 := keepSet3 (by omega) (by omega) (by omega) (by simp; omega) (.bool false) (.slice na (dg BB (val BB dy - rv)).length nc) hS8
        have hpd9 := dg_far g0 g1 hpd8 (.bool false) (.slice na (dg BB (val BB dy - rv)).length nc)
        have hrd9 := dg_far g0 g1 hrd (.bool false) (.slice na (dg BB (val BB dy - rv)).length nc)
        clear hS8 hrI hpd8 hrd
        go_upto_region 9 with (fail)
        generalize (w7.setCell _ _).setCell _ _ = W9 at hS9 hpd9 hrd9 ⊢
        clear c0 c1 d0 d1 f20 f21 f30 f31 hR g0 g1 gf0 gf1
        obtain ⟨g0, g1, gf0, gf1, c0, c1, d0, d1, f20, f21, f30, f31, hR⟩ := hS9
        have HFF : Hid (signZ (!ny) (val BB ps) = x / y ∧ ((val BB dy - rv : Nat) : Int) = x % y) := hide (by rw [HPV.out]; exact HF4.out)
        clear HV1 HF1 HF2 HF3 HF4 HPV HVO
        have hR1 := hR.drew
        have hqd : Dg .u32 W9.drew pa ps := hpd9
        go_region_held3 (fun w' => w'.cell? ⟨G, 0, none⟩ = some (.bool false) ∧ w'.cell? ⟨G, 1, none⟩ = some (.slice na (dg BB (val BB dy - rv)).length nc) ∧ w'.frozen? ⟨G, 0, none⟩ = false ∧ w'.frozen? ⟨G, 1, none⟩ = false ∧ w'.cell? ⟨w.heap.size, 0, none⟩ = some (.bool true) ∧ w'.cell? ⟨w.heap.size, 1, none⟩ = some (.slice a dx.length ca) ∧ w'.cell? ⟨w.heap.size + 1, 0, none⟩ = some (.bool ny) ∧ w'.cell? ⟨w.heap.size + 1, 1, none⟩ = some (.slice b dy.length cb) ∧ w'.frozen? ⟨w.heap.size, 0, none⟩ = false ∧ w'.frozen? ⟨w.heap.size, 1, none⟩ = false ∧ w'.frozen? ⟨w.heap.size + 1, 0, none⟩ = false ∧ w'.frozen? ⟨w.heap.size + 1, 1, none⟩ = false ∧ Rs w [w.heap.size + 1 + 1, w.heap.size + 1 + 1 + 1] w')
          (first | with_reducible exact keep3 (by assumption) hb1 | with_reducible exact keepC3 hwC hgC2 hgC3 hgCG _ _ _ _ (by assumption) | with_reducible exact keepC3 hwD hgD2 hgD3 hgDG _ _ _ _ (by assumption) | go_keep)
          (first | (go_at_call 61; refine (signed_any _ pa pc ps _ hqd hpD hpf.le (by omega)).mono ?_; rintro e w6 ⟨r, rfl, hrI, hb1⟩; obtain ⟨rn, rb, rl, rk, rfl⟩ := hrI.parts; obtain ⟨_, _, _, _, k0, k1, kf0, kf1, hX4⟩ := Rs.at (gs := [w.heap.size + 1 + 1, w.heap.size + 1 + 1 + 1]) hR1 hg4 hb1; obtain ⟨_, _, _, _, m0, m1, mf0, mf1, hX5⟩ := Rs.at (gs := [w.heap.size + 1 + 1, w.heap.size + 1 + 1 + 1]) hR1 hg5 hb1))
        rename_i hS
        clear hS
        obtain ⟨⟨e0, e1, -⟩, ⟨e2, e3, -⟩, hRf⟩ := fin2 (hR1.below hb1) hX4 hX5 (by omega) (by omega) (by omega) rn rb rl rk false na (dg BB (val BB dy - rv)).length nc
        have hIq := store2 hrI hX4 hX5 (by omega) (.bool rn) (.slice rb rl rk) (.bool false) (.slice na (dg BB (val BB dy - rv)).length nc)
        have hIr := store2 (rest_intV hrf ((show Dg .u32 W9.drew na (dg BB (val BB dy - rv)) from hrd9).below hb1 (Nat.le_refl _))) hX4 hX5 (by omega) (.bool rn) (.slice rb rl rk) (.bool false) (.slice na (dg BB (val BB dy - rv)).length nc)
        obtain ⟨E1, E2⟩ := HFF.out
        rw [E1] at hIq
        rw [E2] at hIr
        go_wp2_with fail
        refine bodyPost_ret (v := .tuple #[.agg #[.bool rn, .slice rb rl rk], .agg #[.bool false, .slice na (dg BB (val BB dy - rv)).length nc]]) (by simp [results, Tryd.results23, go_sem, e0, e1, e2, e3]) rfl ?_
        rw [← HP.out]
        exact ⟨_, _, rfl, by rw [if_neg hyz]; exact hIq, by rw [if_neg hyz]; exact hIr, hRf⟩
end Go.Proofs.YthpibilefdmemaaDoor
