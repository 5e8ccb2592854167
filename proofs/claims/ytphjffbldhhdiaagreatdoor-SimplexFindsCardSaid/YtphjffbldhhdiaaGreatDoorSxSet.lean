/- Stores into a table. -/
import Derived.Test.YtphjffbldhhdiaaGreatDoorSxWay
namespace Go.Proofs.YtphjffbldhhdiaaGreatDoor
open Go.RowKit

/-- A table's blocks are its own, new and apart. -/
structure TabM (B : Nat) (w : World) (S : Sys) (L : Spots) : Prop where
  fv : ∀ i, w.frozen? ⟨L.gv, i, none⟩ = false
  ft : ∀ i, w.frozen? ⟨L.gt, i, none⟩ = false
  fc : ∀ i, w.frozen? ⟨L.gc, i, none⟩ = false
  fr : ∀ l, l < S.m → ∀ i, w.frozen? ⟨L.row l, i, none⟩ = false
  bv : B ≤ L.gv
  bt : B ≤ L.gt
  bc : B ≤ L.gc
  br : ∀ l, l < S.m → B ≤ L.row l
  pv : L.p ≠ L.gv
  pt : L.p ≠ L.gt
  pc : L.p ≠ L.gc
  pr : ∀ l, l < S.m → L.p ≠ L.row l
  mv : L.gm ≠ L.gv
  mt : L.gm ≠ L.gt
  mc : L.gm ≠ L.gc
  mr : ∀ l, l < S.m → L.gm ≠ L.row l
  vt : L.gv ≠ L.gt
  vc : L.gv ≠ L.gc
  vx : L.gv ≠ L.gx
  vr : ∀ l, l < S.m → L.gv ≠ L.row l
  tc : L.gt ≠ L.gc
  tx : L.gt ≠ L.gx
  tr : ∀ l, l < S.m → L.gt ≠ L.row l
  cx : L.gc ≠ L.gx
  cr : ∀ l, l < S.m → L.gc ≠ L.row l
  xr : ∀ l, l < S.m → L.gx ≠ L.row l
  rr : ∀ l l', l < S.m → l' < S.m → L.row l = L.row l' → l = l'

section
variable {w : World} {S : Sys} {t : Sim} {L : Spots} {n m : Bool} {a b : Option Addr} {l0 k0 i0 j0 : Nat} {q : Rat}
/-- A value is stored. -/
theorem TabV.setVal {B : Nat} (h : TabV w S t L) (hm : TabM B w S L) {v : Nat} (hv : v < S.n + S.m) (hq : FracV w (.agg #[.bool n, .slice a l0 k0, .bool m, .slice b i0 j0]) q) :
    TabV (put4 w L.gv (v * 4) (.bool n) (.slice a l0 k0) (.bool m) (.slice b i0 j0)) S { t with val := put t.val v q } L where
  c0 := by rw [cell_put4 _ _ _ _ _ _ _ _ (.inl hm.pv)]; exact h.c0
  c1 := by rw [cell_put4 _ _ _ _ _ _ _ _ (.inl hm.pv)]; exact h.c1
  c2 := by rw [cell_put4 _ _ _ _ _ _ _ _ (.inl hm.pv)]; exact h.c2
  c3 := by rw [cell_put4 _ _ _ _ _ _ _ _ (.inl hm.pv)]; exact h.c3
  c4 := by rw [cell_put4 _ _ _ _ _ _ _ _ (.inl hm.pv)]; exact h.c4
  c5 := by rw [cell_put4 _ _ _ _ _ _ _ _ (.inl hm.pv)]; exact h.c5
  am := h.am
  av := h.av
  at_ := h.at_
  ac := h.ac
  ax := h.ax
  ra := h.ra
  most := fun i hi => (h.most i hi).put4 (h.val v hv) (.inl hm.mv)
  val := fun u hu => by
    show FAt _ _ _ (put t.val v q u)
    by_cases he : u = v
    · rw [he, put_at]
      exact FAt.put4_at hq (h.val v hv)
    · rw [put_else _ _ he]
      exact (h.val u hu).put4 (h.val v hv) (.inr (by omega))
  told := fun l hl => by rw [cell_put4 _ _ _ _ _ _ _ _ (.inl hm.vt.symm)]; exact h.told l hl
  col := fun c hc => by rw [cell_put4 _ _ _ _ _ _ _ _ (.inl hm.vc.symm)]; exact h.col c hc
  rows := fun l hl => by rw [cell_put4 _ _ _ _ _ _ _ _ (.inl hm.vx.symm)]; exact h.rows l hl
  T := fun l c hl hc => (h.T l c hl hc).put4 (h.val v hv) (.inl (hm.vr l hl).symm)
/-- One of the times is stored. -/
theorem TabV.setT {B : Nat} (h : TabV w S t L) (hm : TabM B w S L) {l c : Nat} (hl : l < S.m) (hc : c < S.n) (hq : FracV w (.agg #[.bool n, .slice a l0 k0, .bool m, .slice b i0 j0]) q) :
    TabV (put4 w (L.row l) (c * 4) (.bool n) (.slice a l0 k0) (.bool m) (.slice b i0 j0)) S { t with T := put t.T l (put (t.T l) c q) } L where
  c0 := by rw [cell_put4 _ _ _ _ _ _ _ _ (.inl (hm.pr l hl))]; exact h.c0
  c1 := by rw [cell_put4 _ _ _ _ _ _ _ _ (.inl (hm.pr l hl))]; exact h.c1
  c2 := by rw [cell_put4 _ _ _ _ _ _ _ _ (.inl (hm.pr l hl))]; exact h.c2
  c3 := by rw [cell_put4 _ _ _ _ _ _ _ _ (.inl (hm.pr l hl))]; exact h.c3
  c4 := by rw [cell_put4 _ _ _ _ _ _ _ _ (.inl (hm.pr l hl))]; exact h.c4
  c5 := by rw [cell_put4 _ _ _ _ _ _ _ _ (.inl (hm.pr l hl))]; exact h.c5
  am := h.am
  av := h.av
  at_ := h.at_
  ac := h.ac
  ax := h.ax
  ra := h.ra
  most := fun i hi => (h.most i hi).put4 (h.T l c hl hc) (.inl (hm.mr l hl))
  val := fun u hu => (h.val u hu).put4 (h.T l c hl hc) (.inl (hm.vr l hl))
  told := fun i hi => by rw [cell_put4 _ _ _ _ _ _ _ _ (.inl (hm.tr l hl))]; exact h.told i hi
  col := fun i hi => by rw [cell_put4 _ _ _ _ _ _ _ _ (.inl (hm.cr l hl))]; exact h.col i hi
  rows := fun i hi => by rw [cell_put4 _ _ _ _ _ _ _ _ (.inl (hm.xr l hl))]; exact h.rows i hi
  T := fun l' c' hl' hc' => by
    show FAt _ _ _ (put t.T l (put (t.T l) c q) l' c')
    by_cases he : l' = l
    · subst he
      rw [put_at]
      by_cases hc2 : c' = c
      · subst hc2
        rw [put_at]
        exact FAt.put4_at hq (h.T l' c' hl hc)
      · rw [put_else _ _ hc2]
        exact (h.T l' c' hl hc').put4 (h.T l' c hl hc) (.inr (by omega))
    · rw [put_else _ _ he]
      exact (h.T l' c' hl' hc').put4 (h.T l c hl hc) (.inl fun e => he (hm.rr _ _ hl' hl e))
theorem TabM.put4 {B g o : Nat} (h : TabM B w S L) (p q r s : Value) : TabM B (put4 w g o p q r s) S L :=
  { h with
    fv := fun i => (frozen_put4 _ _ _ _ _ _ _ _).trans (h.fv i)
    ft := fun i => (frozen_put4 _ _ _ _ _ _ _ _).trans (h.ft i)
    fc := fun i => (frozen_put4 _ _ _ _ _ _ _ _).trans (h.fc i)
    fr := fun l hl i => (frozen_put4 _ _ _ _ _ _ _ _).trans (h.fr l hl i) }
theorem TabM.set1 {B : Nat} (h : TabM B w S L) (x : Addr) (u : Value) : TabM B (w.setCell x u) S L :=
  { h with
    fv := fun i => (World.frozen?_setCell _ _ _ _).trans (h.fv i)
    ft := fun i => (World.frozen?_setCell _ _ _ _).trans (h.ft i)
    fc := fun i => (World.frozen?_setCell _ _ _ _).trans (h.fc i)
    fr := fun l hl i => (World.frozen?_setCell _ _ _ _).trans (h.fr l hl i) }
theorem frozen_below {w w' : World} {x : Addr} (hb : Below w.heap.size w w') (hx : x.block < w.heap.size) (h : w.frozen? x = false) : w'.frozen? x = false := by
  have h1 := hb.block x.block hx
  unfold World.frozen? at h ⊢
  rw [h1]
  exact h
theorem TabM.below {B : Nat} {w' : World} (h : TabM B w S L) (hT : TabV w S t L) (hn : 0 < S.n) (hm : 0 < S.m) (hb : Below w.heap.size w w') : TabM B w' S L :=
  { h with
    fv := fun i => frozen_below hb (hT.val 0 (by omega)).lt (h.fv i)
    ft := fun i => frozen_below hb (show L.gt < w.heap.size from World.block_lt_of_cell? w _ (hT.told 0 hm)) (h.ft i)
    fc := fun i => frozen_below hb (show L.gc < w.heap.size from World.block_lt_of_cell? w _ (hT.col 0 hn)) (h.fc i)
    fr := fun l hl i => frozen_below hb (hT.T l 0 hl hn).lt (h.fr l hl i) }
/-- Which one a line tells is stored. -/
theorem TabV.setTold {B : Nat} (h : TabV w S t L) (hm : TabM B w S L) {l v : Nat} (hl : l < S.m) :
    TabV (w.setCell ⟨L.gt, l, none⟩ (.int .i64 (v : Int))) S { t with told := put t.told l v } L := by
  have hnd : NoDig w ⟨L.gt, l, none⟩ := NoDig.of (h.told l hl) (by intro z e; cases e)
  have far : ∀ {g o : Nat} {x : Value}, L.gt ≠ g → w.cell? ⟨g, o, none⟩ = some x → (w.setCell ⟨L.gt, l, none⟩ (.int .i64 (v : Int))).cell? ⟨g, o, none⟩ = some x := fun {g o x} hne hc => by
    rw [World.cell?_setCell_other _ _ _ _ (show (⟨L.gt, l, none⟩ : Addr) ≠ ⟨g, o, none⟩ from fun e => hne (by injection e))]; exact hc
  exact {
    c0 := far hm.pt.symm h.c0
    c1 := far hm.pt.symm h.c1
    c2 := far hm.pt.symm h.c2
    c3 := far hm.pt.symm h.c3
    c4 := far hm.pt.symm h.c4
    c5 := far hm.pt.symm h.c5
    am := h.am
    av := h.av
    at_ := h.at_
    ac := h.ac
    ax := h.ax
    ra := h.ra
    most := fun i hi => (h.most i hi).setX hnd (.inl hm.mt.symm) _
    val := fun i hi => (h.val i hi).setX hnd (.inl hm.vt.symm) _
    told := fun i hi => by
      show _ = some (Value.int .i64 ((put t.told l v i : Nat) : Int))
      by_cases he : i = l
      · subst he
        rw [put_at, World.cell?_setCell_same' _ _ _ (by rw [h.told i hi]; rfl)]
      · rw [put_else _ _ he, World.cell?_setCell_other _ _ _ _ (show (⟨L.gt, l, none⟩ : Addr) ≠ ⟨L.gt, i, none⟩ from fun e => he (by injection e with _ e2; exact e2.symm))]
        exact h.told i hi
    col := fun i hi => far hm.tc (h.col i hi)
    rows := fun i hi => far hm.tx (h.rows i hi)
    T := fun i c hi hc => (h.T i c hi hc).setX hnd (.inl (hm.tr i hi)) _ }
/-- Which one stands in a column is stored. -/
theorem TabV.setCol {B : Nat} (h : TabV w S t L) (hm : TabM B w S L) {c v : Nat} (hc : c < S.n) :
    TabV (w.setCell ⟨L.gc, c, none⟩ (.int .i64 (v : Int))) S { t with col := put t.col c v } L := by
  have hnd : NoDig w ⟨L.gc, c, none⟩ := NoDig.of (h.col c hc) (by intro z e; cases e)
  have far : ∀ {g o : Nat} {x : Value}, L.gc ≠ g → w.cell? ⟨g, o, none⟩ = some x → (w.setCell ⟨L.gc, c, none⟩ (.int .i64 (v : Int))).cell? ⟨g, o, none⟩ = some x := fun {g o x} hne hx => by
    rw [World.cell?_setCell_other _ _ _ _ (show (⟨L.gc, c, none⟩ : Addr) ≠ ⟨g, o, none⟩ from fun e => hne (by injection e))]; exact hx
  exact {
    c0 := far hm.pc.symm h.c0
    c1 := far hm.pc.symm h.c1
    c2 := far hm.pc.symm h.c2
    c3 := far hm.pc.symm h.c3
    c4 := far hm.pc.symm h.c4
    c5 := far hm.pc.symm h.c5
    am := h.am
    av := h.av
    at_ := h.at_
    ac := h.ac
    ax := h.ax
    ra := h.ra
    most := fun i hi => (h.most i hi).setX hnd (.inl hm.mc.symm) _
    val := fun i hi => (h.val i hi).setX hnd (.inl hm.vc.symm) _
    told := fun i hi => far hm.tc.symm (h.told i hi)
    col := fun i hi => by
      show _ = some (Value.int .i64 ((put t.col c v i : Nat) : Int))
      by_cases he : i = c
      · subst he
        rw [put_at, World.cell?_setCell_same' _ _ _ (by rw [h.col i hi]; rfl)]
      · rw [put_else _ _ he, World.cell?_setCell_other _ _ _ _ (show (⟨L.gc, c, none⟩ : Addr) ≠ ⟨L.gc, i, none⟩ from fun e => he (by injection e with _ e2; exact e2.symm))]
        exact h.col i hi
    rows := fun i hi => far hm.cx (h.rows i hi)
    T := fun i d hi hd => (h.T i d hi hd).setX hnd (.inl (hm.cr i hi)) _ }
end
end Go.Proofs.YtphjffbldhhdiaaGreatDoor
