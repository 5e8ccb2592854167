/- collatorref01.Div: by its contract. -/
import Derived.Test.YthpibilefdmemaaDoorRMul
import Derived.RegionTactic
import Derived.BigRegion
namespace Go.Proofs.YthpibilefdmemaaDoor
open Go.RowKit

/-- So far the quotient's digits from k on, and what is left. -/
structure DvSt (X : List Nat) (Y k : Nat) (Q : List Nat) (p : Nat) : Prop where
  len : Q.length = X.length
  digs : Digs 10 Q
  lo : ∀ j, j < k → j < Q.length → Q[j]? = some 0
  val_ : val 10 (X.drop k) = val 10 (Q.drop k) * Y + p
  lt : p < Y
theorem DvSt.start (X : List Nat) {Y : Nat} (hY : 0 < Y) : DvSt X Y X.length (List.replicate X.length 0) 0 := by
  refine ⟨by simp, ?_, fun j hj hl => by simp at hl; simp [hl], by simp [val], hY⟩
  intro d hd
  have := List.eq_of_mem_replicate hd
  omega
theorem DvSt.next {X : List Nat} {Y k : Nat} {Q : List Nat} {p t g : Nat} (h : DvSt X Y (k + 1) Q p) (hk : k < X.length) (he : X[k] + 10 * p = t * Y + g) (hg : g < Y) (hX : X[k] < 10) : DvSt X Y k (Q.set k t) g := by
  have hl := h.len
  have ht : t < 10 := by
    rcases Nat.lt_or_ge t 10 with h1 | h1
    · exact h1
    · have h2 : 10 * Y ≤ t * Y := Nat.mul_le_mul_right _ h1
      have h3 := h.lt
      omega
  refine ⟨by simp [hl], h.digs.set ht, ?_, ?_, hg⟩
  · intro j hj hjl
    rw [List.getElem?_set_ne (by omega)]
    exact h.lo j (by omega) (by simpa using hjl)
  · have e1 : val 10 (X.drop k) = X[k] + 10 * val 10 (X.drop (k + 1)) := by rw [List.drop_eq_getElem_cons hk]; rfl
    have e2 : (Q.set k t).drop k = t :: Q.drop (k + 1) := by
      rw [List.drop_eq_getElem_cons (show k < (Q.set k t).length by simp; omega)]
      congr 1
      · simp
      · rw [List.drop_set_of_lt (by omega)]
    rw [e1, h.val_, e2]
    show _ = (t + 10 * val 10 (Q.drop (k + 1))) * Y + g
    rw [Nat.add_mul, Nat.mul_add, Nat.mul_assoc]
    omega
theorem DvSt.done {X : List Nat} {Y : Nat} {Q : List Nat} {p : Nat} (h : DvSt X Y 0 Q p) : val 10 Q = val 10 X / Y ∧ p = val 10 X % Y := by
  have hv := h.val_
  have hlt := h.lt
  rw [List.drop_zero, List.drop_zero] at hv
  rw [hv, Nat.mul_comm]
  refine ⟨?_, ?_⟩
  · rw [Nat.mul_add_div (by omega), Nat.div_eq_of_lt hlt, Nat.add_zero]
  · rw [Nat.mul_add_mod, Nat.mod_eq_of_lt hlt]

theorem own_one (w : World) (d : Nat) : OwnE (w.alloc (.cells #[.int .i64 (d : Int)] 3)) w.heap.size (.slice (some ⟨w.heap.size, 0, none⟩) 1 1) [d] :=
  ⟨rfl, .inr ⟨w.heap.size, 1, _, rfl, Nat.le_refl _, heap_alloc_new w _, Nat.le_refl _, by decide, rfl, rfl⟩⟩

/-- The boxes, the quotient's row, what is left. -/
structure DvW (w : World) (nx : Bool) (vx : Value) (ny : Bool) (vy : Value) (G : Nat) (Q : List Nat) (ra : Option Addr) (rc p : Nat) (c : World) : Prop where
  bx : Blk c w.heap.size 30 #[.bool nx, vx]
  by_ : Blk c (w.heap.size + 1) 30 #[.bool ny, vy]
  bz : Blk c (w.heap.size + 1 + 1) 30 #[.bool false, .slice none 0 0]
  bv : Blk c (w.heap.size + 1 + 1 + 1) 30 #[.bool false, .slice none 0 0]
  row : DRow .i64 3 c G Q
  rd : Dg .i64 c ra (dg 10 p)
  rf : Fit ra (dg 10 p).length rc
  rn : ∀ ad, ra = some ad → G < ad.block
  bel : Below w.heap.size w c
section
variable {w c c' : World} {nx ny : Bool} {vx vy : Value} {G : Nat} {Q : List Nat} {ra ra' : Option Addr} {rc rc' p p' : Nat}
theorem DvW.grow (h : DvW w nx vx ny vy G Q ra rc p c) (hb : Below c.heap.size c c') (rd : Dg .i64 c' ra' (dg 10 p')) (rf : Fit ra' (dg 10 p').length rc') (rn : ∀ ad, ra' = some ad → c.heap.size ≤ ad.block) : DvW w nx vx ny vy G Q ra' rc' p' c' :=
  ⟨h.bx.below hb h.bx.lt, h.by_.below hb h.by_.lt, h.bz.below hb h.bz.lt, h.bv.below hb h.bv.lt, h.row.below hb h.row.lt, rd, rf, fun ad e => Nat.lt_of_lt_of_le h.row.lt (rn ad e), h.bel.trans (hb.mono h.bel.size)⟩
theorem DvW.keep (h : DvW w nx vx ny vy G Q ra rc p c) (hb : Below c.heap.size c c') : DvW w nx vx ny vy G Q ra rc p c' :=
  ⟨h.bx.below hb h.bx.lt, h.by_.below hb h.by_.lt, h.bz.below hb h.bz.lt, h.bv.below hb h.bv.lt, h.row.below hb h.row.lt, h.rd.below hb (Nat.le_refl _), h.rf, h.rn, h.bel.trans (hb.mono h.bel.size)⟩
theorem DvW.drewN (h : DvW w nx vx ny vy G Q ra rc p c) (n : Nat) : DvW w nx vx ny vy G Q ra rc p (c.drewN n) := ⟨h.bx, h.by_, h.bz, h.bv, h.row, h.rd, h.rf, h.rn, below_drewN h.bel n⟩
theorem DvW.set (h : DvW w nx vx ny vy G Q ra rc p c) (hG : w.heap.size + 4 ≤ G) (i d : Nat) : DvW w nx vx ny vy G (Q.set i d) ra rc p (c.setCell ⟨G, i, none⟩ (.int .i64 (d : Int))) := by
  refine ⟨h.bx.far (by simp; omega) _, h.by_.far (by simp; omega) _, h.bz.far (by simp; omega) _, h.bv.far (by simp; omega) _, h.row.set i d, ?_, h.rf, h.rn, h.bel.setCell (by simp; omega) _⟩
  intro hn
  obtain ⟨b, off, e, hc⟩ := h.rd hn
  refine ⟨b, off, e, fun j hj => ?_⟩
  have hlt : G < b := h.rn _ e
  rw [World.cell?_setCell_other _ _ _ _ (fun e => by have := congrArg Addr.block e; simp at this; omega)]
  exact hc j hj
end
/-- The boxes, the results' blocks, the two numbers. -/
structure DvE (w : World) (nx : Bool) (vx : Value) (ny : Bool) (vy : Value) (g9 g10 : Nat) (a0 a1 b0 b1 : Value) (c : World) : Prop where
  bx : Blk c w.heap.size 30 #[.bool nx, vx]
  by_ : Blk c (w.heap.size + 1) 30 #[.bool ny, vy]
  bz : Blk c (w.heap.size + 1 + 1) 30 #[.bool false, .slice none 0 0]
  bv : Blk c (w.heap.size + 1 + 1 + 1) 30 #[.bool false, .slice none 0 0]
  b9 : Blk c g9 30 #[a0, a1]
  b10 : Blk c g10 30 #[b0, b1]
  bel : Below w.heap.size w c
section
variable {w c c' : World} {nx ny : Bool} {vx vy a0 a1 b0 b1 : Value} {g9 g10 : Nat}
theorem DvE.keep (h : DvE w nx vx ny vy g9 g10 a0 a1 b0 b1 c) (hb : Below c.heap.size c c') : DvE w nx vx ny vy g9 g10 a0 a1 b0 b1 c' :=
  ⟨h.bx.below hb h.bx.lt, h.by_.below hb h.by_.lt, h.bz.below hb h.bz.lt, h.bv.below hb h.bv.lt, h.b9.below hb h.b9.lt, h.b10.below hb h.b10.lt, h.bel.trans (hb.mono h.bel.size)⟩
theorem DvE.drew (h : DvE w nx vx ny vy g9 g10 a0 a1 b0 b1 c) : DvE w nx vx ny vy g9 g10 a0 a1 b0 b1 c.drew := ⟨h.bx, h.by_, h.bz, h.bv, h.b9, h.b10, h.bel.drew⟩
theorem DvE.put9 (h : DvE w nx vx ny vy g9 g10 a0 a1 b0 b1 c) (h1 : w.heap.size + 4 ≤ g9) (h2 : g9 < g10) (p q : Value) : DvE w nx vx ny vy g9 g10 p q b0 b1 ((c.setCell ⟨g9, 0, none⟩ p).setCell ⟨g9, 1, none⟩ q) :=
  ⟨(h.bx.far (by simp; omega) _).far (by simp; omega) _, (h.by_.far (by simp; omega) _).far (by simp; omega) _, (h.bz.far (by simp; omega) _).far (by simp; omega) _, (h.bv.far (by simp; omega) _).far (by simp; omega) _, h.b9.two p q, (h.b10.far (by simp; omega) _).far (by simp; omega) _, (h.bel.setCell (by simp; omega) _).setCell (by simp; omega) _⟩
theorem DvE.put10 (h : DvE w nx vx ny vy g9 g10 a0 a1 b0 b1 c) (h1 : w.heap.size + 4 ≤ g9) (h2 : g9 < g10) (p q : Value) : DvE w nx vx ny vy g9 g10 a0 a1 p q ((c.setCell ⟨g10, 0, none⟩ p).setCell ⟨g10, 1, none⟩ q) :=
  ⟨(h.bx.far (by simp; omega) _).far (by simp; omega) _, (h.by_.far (by simp; omega) _).far (by simp; omega) _, (h.bz.far (by simp; omega) _).far (by simp; omega) _, (h.bv.far (by simp; omega) _).far (by simp; omega) _, (h.b9.far (by simp; omega) _).far (by simp; omega) _, h.b10.two p q, (h.bel.setCell (by simp; omega) _).setCell (by simp; omega) _⟩
end
theorem dlen_of {z : Int} {L : List Nat} (h : Canon 10 L) (hz : z.natAbs ≤ val 10 L) : dlen z ≤ L.length := by
  have h1 := dg_len_mono T2 hz
  rw [dg_of T2 h rfl] at h1
  exact h1

/-- What the document's Div leaves. -/
def RDivPost (w : World) (q r : Int) (e : Ending) (w' : World) : Prop := ∃ Q R, e = .returned (.tuple #[Q, R]) ∧ NumV w' Q q ∧ NumV w' R r ∧ Below w.heap.size w w'

set_option maxRecDepth 100000 in
set_option maxHeartbeats 3200000 in
theorem RDiv_any {x y : Int} {u v : Value} (w : World) (hx : NumV w u x) (hy : NumV w v y) (hn : Dm x) (hm : Dm y) :
    Calls Tryd.prog 24 #[u, v] w (RDivPost w (if y = 0 then 0 else x / y) (if y = 0 then 0 else x % y)) := by
  generalize hP : RDivPost w (if y = 0 then 0 else x / y) (if y = 0 then 0 else x % y) = Post
  have HP := hide hP
  clear hP
  obtain ⟨a, ca, rfl, ha, hda⟩ := hx
  obtain ⟨b, cb, rfl, hb, hdb⟩ := hy
  have dX : Digs 10 (dg 10 x.natAbs) := (dg_canon T2 x.natAbs).1
  have cX := dg_canon T2 x.natAbs
  have cY := dg_canon T2 y.natAbs
  have cY1 : Digs 10 (dg 10 y.natAbs) := cY.1
  have HVX := hide (dg_val T2 x.natAbs)
  have HVY := hide (dg_val T2 y.natAbs)
  have HY0 : Hid (y.natAbs = 0 ↔ dg 10 y.natAbs = []) := hide (dg_eq_nil T2).symm
  unfold Dm dlen at hn hm
  generalize dg 10 x.natAbs = X at *
  generalize dg 10 y.natAbs = Y at *
  generalize hnx : decide (x < 0) = nx at *
  generalize hny : decide (y < 0) = ny at *
  have HNX := hide hnx
  have HNY := hide hny
  clear hnx hny
  obtain ⟨W, hW⟩ : ∃ W, (((w.alloc (.cells #[.bool nx, .slice a X.length ca] 30)).alloc (.cells #[.bool ny, .slice b Y.length cb] 30)).alloc (.cells #[.bool false, .slice none 0 0] 30)).alloc (.cells #[.bool false, .slice none 0 0] 30) = W := ⟨_, rfl⟩
  have hZ : Blk W w.heap.size 30 #[.bool nx, .slice a X.length ca] := by rw [← hW]; exact (((Blk.new w _ _).alloc _).alloc _).alloc _
  have hZ2 : Blk W (w.heap.size + 1) 30 #[.bool ny, .slice b Y.length cb] := by rw [← hW]; exact ((Blk.new_at _ _ _ (by simp)).alloc _).alloc _
  have hZ3 : Blk W (w.heap.size + 1 + 1) 30 #[.bool false, .slice none 0 0] := by rw [← hW]; exact (Blk.new_at _ _ _ (by simp)).alloc _
  have hZ4 : Blk W (w.heap.size + 1 + 1 + 1) 30 #[.bool false, .slice none 0 0] := by rw [← hW]; exact Blk.new_at _ _ _ (by simp)
  have hB : Below w.heap.size w W := by rw [← hW]; exact ((((Below.refl _ _).alloc (Nat.le_refl _) _).alloc (by simp) _).alloc (by simp; omega) _).alloc (by simp; omega) _
  have hsz : W.heap.size = w.heap.size + 4 := by rw [← hW]; simp
  have HSZ := hide hsz
  have hmm : Y.length ≤ 2199023255552 := by omega
  obtain ⟨c0, c1, -⟩ := hZ.c2
  obtain ⟨d0, d1, -⟩ := hZ2.c2
  have HW := hide hW
  clear hW hsz
  go_enter Tryd.func24, Tryd.ntmps24
  go_upto_region 1 with (fail)
  rw [HW.out]
  clear HW
  by_cases hY0 : Y.length = 0
  · have e0 : ((Y.length : Int) == 0) = true := by rw [hY0]; rfl
    have HYZ : Hid (y = 0) := hide (by have := HY0.out.2 (List.eq_nil_of_length_eq_zero hY0); omega)
    obtain ⟨z0, z1, zf⟩ := hZ3.c2
    obtain ⟨v0, v1, vf⟩ := hZ4.c2
    have zf0 := zf 0
    have zf1 := zf 1
    have vf0 := vf 0
    have vf1 := vf 1
    obtain ⟨f0, f1, -⟩ := (((hZ3.two (.bool false) (.slice none 0 0)).far (p := ⟨w.heap.size + 1 + 1 + 1, 0, none⟩) (by simp) (.bool false)).far (p := ⟨w.heap.size + 1 + 1 + 1, 1, none⟩) (by simp) (.slice none 0 0)).c2
    obtain ⟨k0, k1, -⟩ := (((hZ4.far (p := ⟨w.heap.size + 1 + 1, 0, none⟩) (by simp) (.bool false)).far (p := ⟨w.heap.size + 1 + 1, 1, none⟩) (by simp) (.slice none 0 0)).two (.bool false) (.slice none 0 0)).c2
    have hBf : Below w.heap.size w ((((W.setCell ⟨w.heap.size + 1 + 1, 0, none⟩ (.bool false)).setCell ⟨w.heap.size + 1 + 1, 1, none⟩ (.slice none 0 0)).setCell ⟨w.heap.size + 1 + 1 + 1, 0, none⟩ (.bool false)).setCell ⟨w.heap.size + 1 + 1 + 1, 1, none⟩ (.slice none 0 0)) := (((hB.setCell (by simp; omega) _).setCell (by simp; omega) _).setCell (by simp; omega) _).setCell (by simp; omega) _
    clear hY0
    go_wp2_with fail
    refine bodyPost_ret (v := .tuple #[.agg #[.bool false, .slice none 0 0], .agg #[.bool false, .slice none 0 0]]) (by simp [results, Tryd.results24, go_sem, f0, f1, k0, k1]) rfl ?_
    rw [← HP.out, if_pos HYZ.out, if_pos HYZ.out]
    exact ⟨_, _, rfl, NumV.zero _, NumV.zero _, hBf⟩
  have hy0 : y ≠ 0 := by
    intro h
    have h1 := HY0.out.1 (by rw [h]; rfl)
    rw [h1] at hY0
    exact hY0 rfl
  have e0 : ((Y.length : Int) == 0) = false := beq_eq_false_iff_ne.2 (by omega)
  have hYp : 0 < val 10 Y := by rw [HVY.out]; omega
  have HYN := hide hy0
  clear hY0 hy0 HY0
  go_wp2_with (at_make; refine wpList_make_zeroI rfl _ _ rfl _ _ X.length rfl rfl (by omega) (by omega) (by omega) ?_)
  intro w2 hrow hb2
  have hD0 := DvSt.start X hYp
  have hG : w.heap.size + 4 ≤ W.heap.size := by rw [HSZ.out]; exact Nat.le_refl _
  obtain ⟨w3, hw3⟩ : ∃ w3, w2.alloc (.cells #[] 3) = w3 := ⟨_, rfl⟩
  have hb3 : Below w2.heap.size w2 w3 := by rw [← hw3]; exact (Below.refl _ _).alloc (Nat.le_refl _) _
  have s0 : DvW w nx (.slice a X.length ca) ny (.slice b Y.length cb) W.heap.size (List.replicate X.length 0) (some ⟨w2.heap.size, 0, none⟩) 0 0 w3 := by
    have hbb : Below W.heap.size W w3 := hb2.trans (hb3.mono hb2.size)
    exact ⟨hZ.below hbb hZ.lt, hZ2.below hbb hZ2.lt, hZ3.below hbb hZ3.lt, hZ4.below hbb hZ4.lt, hrow.below hb3 hrow.lt, Dg.nil _ _, ⟨Nat.le_refl _, fun h => by cases h⟩, fun ad e => by injection e with e; subst e; exact hrow.lt, hB.trans (hbb.mono hB.size)⟩
  have HW3 := hide hw3
  obtain ⟨c0, c1, -⟩ := s0.bx.c2
  clear hw3 hZ hZ2 hZ3 hZ4 hB hrow hb2 d0 d1 HSZ
  generalize hGe : W.heap.size = G at *
  clear hGe
  go_upto_region 5 with (fail)
  rw [HW3.out]
  clear HW3
  go_wp2_with fail
  go_loopg [7, 8] X.length (fun k v i wr => ∃ (Q : List Nat) (p : Nat) (ra : Option Addr) (rc : Nat), i = .int .i64 ((k : Int) - 1) ∧ k ≤ X.length ∧ v = .slice ra (dg 10 p).length rc ∧ DvSt X (val 10 Y) k Q p ∧ DvW w nx (.slice a X.length ca) ny (.slice b Y.length cb) G Q ra rc p wr)
  case atStart => exact ⟨_, 0, _, 0, rfl, Nat.le_refl _, rfl, hD0, s0⟩
  case round =>
    obtain ⟨Q, p, ra, rc, rfl, hkl, rfl, hD, s⟩ := hrel
    clear s0 hD0 c0 c1
    obtain ⟨c0, c1, -⟩ := s.bx.c2
    obtain ⟨d0, d1, -⟩ := s.by_.c2
    have hpl : (dg 10 p).length ≤ Y.length := by
      have h1 := dg_len_mono T2 (Nat.le_of_lt hD.lt)
      rw [dg_of T2 cY rfl] at h1
      exact h1
    rcases gk with _ | k
    · rw [show (((0 : Nat) : Int) - 1) = -1 from rfl]
      obtain ⟨hQv, hpv⟩ := hD.done
      rw [HVX.out, HVY.out] at hQv hpv
      have hql := hD.len
      have hqd := hD.digs
      have hplt := hD.lt
      have hgd := s.row.dg
      have hsg := make1_any (!(nx == ny)) (some ⟨G, 0, none⟩) X.length Q wr hgd hqd ⟨by omega, fun h => by cases h⟩ (by omega)
      rw [hql, hQv] at hsg
      have hrd := s.rd
      have hrf := s.rf
      have hGlt := s.row.lt
      have s1 := And.intro s.bx (And.intro s.by_ (And.intro s.bz (And.intro s.bv s.bel)))
      clear s hD hgd
      have HQV := hide hQv
      have HPV := hide hpv
      clear hQv hpv hql
      go_wp2_with fail
      generalize hnz : (!(nx == ny)) = nz at hsg ⊢
      have HNZ := hide hnz
      clear hnz
      refine hsg.mono ?_
      clear hsg
      rintro e w4 ⟨rA, rfl, h4, hb4⟩
      obtain ⟨an, aa, al, ac, rfl⟩ := h4.parts
      obtain ⟨w5, hw5⟩ : ∃ w5, w4.alloc (.cells #[.bool an, .slice aa al ac] 30) = w5 := ⟨_, rfl⟩
      have hb5 : Below w4.heap.size w4 w5 := by rw [← hw5]; exact (Below.refl _ _).alloc (Nat.le_refl _) _
      have b9 : Blk w5 w4.heap.size 30 #[.bool an, .slice aa al ac] := by rw [← hw5]; exact Blk.new _ _ _
      have hbb : Below wr.heap.size wr w5 := hb4.trans (hb5.mono hb4.size)
      have hA5 := h4.below hb5 (Nat.le_refl _)
      have hrd5 := hrd.below hbb (Nat.le_refl _)
      have hg9 : w.heap.size + 4 ≤ w4.heap.size := Nat.le_trans (Nat.le_trans hG (Nat.le_of_lt hGlt)) hb4.size
      obtain ⟨bx, by_, bz, bv, bel⟩ := s1
      have bx5 := bx.below hbb bx.lt
      have by5 := by_.below hbb by_.lt
      have bz5 := bz.below hbb bz.lt
      have bv5 := bv.below hbb bv.lt
      have bel5 : Below w.heap.size w w5 := bel.trans (hbb.mono bel.size)
      have HW5 := hide hw5
      clear hw5 bx by_ bz bv bel hrd hb4 hb5 hbb h4 c0 c1 d0 d1
      go_upto_region 13 with (fail)
      rw [HW5.out]
      clear HW5
      generalize hg9e : w4.heap.size = g9 at b9 hg9 ⊢
      clear hg9e
      obtain ⟨c0, c1, -⟩ := bx5.c2
      go_wp2_with fail
      refine (make1_can nx ra rc p w5 hrd5 hrf (by omega)).mono ?_
      rintro e w6 ⟨rB, rfl, h6, hb6⟩
      obtain ⟨bn, ba, bl, bc, rfl⟩ := h6.parts
      obtain ⟨w7, hw7⟩ : ∃ w7, w6.alloc (.cells #[.bool bn, .slice ba bl bc] 30) = w7 := ⟨_, rfl⟩
      have hb7 : Below w6.heap.size w6 w7 := by rw [← hw7]; exact (Below.refl _ _).alloc (Nat.le_refl _) _
      have b10 : Blk w7 w6.heap.size 30 #[.bool bn, .slice ba bl bc] := by rw [← hw7]; exact Blk.new _ _ _
      have hbb : Below w5.heap.size w5 w7 := hb6.trans (hb7.mono hb6.size)
      have hA7 := hA5.below hbb (Nat.le_refl _)
      have hB7 := h6.below hb7 (Nat.le_refl _)
      have hg10 : g9 < w6.heap.size := Nat.lt_of_lt_of_le b9.lt hb6.size
      have es : DvE w nx (.slice a X.length ca) ny (.slice b Y.length cb) g9 w6.heap.size (.bool an) (.slice aa al ac) (.bool bn) (.slice ba bl bc) w7 := ⟨bx5.below hbb bx5.lt, by5.below hbb by5.lt, bz5.below hbb bz5.lt, bv5.below hbb bv5.lt, b9.below hbb b9.lt, b10, bel5.trans (hbb.mono bel5.size)⟩
      have HW7 := hide hw7
      clear hw7 b9 b10 bx5 by5 bz5 bv5 bel5 hb6 hb7 hbb h6 hA5 hrd5 c0 c1
      go_upto_region 14 with (fail)
      rw [HW7.out]
      clear HW7
      generalize hg10e : w6.heap.size = g10 at es hg10 ⊢
      clear hg10e
      have hbn : bn = decide (signZ nx p < 0) := by obtain ⟨_, _, e, _, _⟩ := hB7; simp at e; exact e.1
      obtain ⟨k0, k1, -⟩ := es.b10.c2
      have HBN := hide hbn
      clear hbn
      go_upto_if 66 with (fail)
      go_cut [67] from 68 to 79 (fun _ wc => ∃ (a0 : Bool) (a1 : Option Addr) (a2 a3 : Nat) (b0 : Bool) (b1 : Option Addr) (b2 b3 : Nat), DvE w nx (.slice a X.length ca) ny (.slice b Y.length cb) g9 g10 (.bool a0) (.slice a1 a2 a3) (.bool b0) (.slice b1 b2 b3) wc ∧ NumV wc (.agg #[.bool a0, .slice a1 a2 a3]) (x / y) ∧ NumV wc (.agg #[.bool b0, .slice b1 b2 b3]) (x % y))
      case first =>
        cases bn with
        | false =>
          have hval : signZ nz (x.natAbs / y.natAbs) = x / y ∧ signZ nx p = x % y := by
            rw [← HNZ.out]
            have h1 := HNX.out
            have h2 := HNY.out
            have h3 := HBN.out
            have h4 := HPV.out
            have h5 := HYN.out
            cases nx with
            | false =>
              have hx0 : ¬ x < 0 := by simpa using h1
              obtain ⟨e1, e2⟩ := div_pos (x := x) h5 hx0
              rw [h2] at e1
              exact ⟨e1, by rw [← e2, h4]; rfl⟩
            | true =>
              have hx0 : x < 0 := by simpa using h1
              have hp0 : p = 0 := by
                have : ¬ signZ true p < 0 := by simpa using h3.symm
                simp [signZ] at this
                omega
              obtain ⟨e1, e2⟩ := div_neg0 (x := x) h5 hx0 (by rw [← h4]; exact hp0)
              rw [h2] at e1
              exact ⟨e1, by rw [← e2, hp0]; rfl⟩
          rw [hval.1] at hA7
          rw [hval.2] at hB7
          clear hval
          go_wp2_with fail
          go_meet
          exact ⟨_, _, _, _, _, _, _, _, es, hA7, hB7⟩
        | true =>
          obtain ⟨hx0, hp0⟩ : x < 0 ∧ 0 < p := by
            have h1 := HNX.out
            have h3 : signZ nx p < 0 := by have := HBN.out; simpa using this.symm
            cases nx with
            | false => simp [signZ] at h3; omega
            | true => exact ⟨by simpa using h1, by simp [signZ] at h3; omega⟩
          obtain rfl : nx = true := by rw [← HNX.out]; exact decide_eq_true hx0
          have HB1 : Hid (signZ true p + signZ false (val 10 Y) = x % y) := hide (by
            have e2 := (div_neg1 (x := x) HYN.out hx0 (by rw [← HPV.out]; exact hp0)).2
            rw [← e2, HVY.out, ← HPV.out]
            have h9 := hplt
            rw [HVY.out] at h9
            simp only [signZ, if_true, Bool.false_eq_true, if_false]
            omega)
          have HA1 : Hid (signZ nz (x.natAbs / y.natAbs) + (if ny then 1 else -1) = x / y) := hide (by
            rw [← HNZ.out]
            have e1 := (div_neg1 (x := x) HYN.out hx0 (by rw [← HPV.out]; exact hp0)).1
            rw [← e1, HNY.out]
            cases ny <;> simp [signZ] <;> omega)
          have sB : Dm (signZ true p) := by
            have h := dlen_of (z := signZ true p) cY (by simp [signZ]; omega)
            unfold Dm; omega
          have sY : Dm (signZ false (val 10 Y)) := by
            have h := dlen_of (z := signZ false (val 10 Y)) cY (by simp [signZ])
            unfold Dm; omega
          have sA : Dm (signZ nz (x.natAbs / y.natAbs)) := by
            have h1 : ∀ (bb : Bool) (q : Nat), (signZ bb q).natAbs = q := fun bb q => by cases bb <;> simp [signZ]
            have h2 := dlen_of (z := signZ nz (x.natAbs / y.natAbs)) cX (by rw [h1, HVX.out]; exact Nat.div_le_self _ _)
            unfold Dm; omega
          have s1 : Dm 1 := by unfold Dm; decide
          have s2 : Dm (-1) := by unfold Dm; decide
          go_upto_region 15 with (fail)
          obtain ⟨y0, y1, -⟩ := es.by_.c2
          go_cut [67] from 68 to 71 (fun _ wc => ∃ (b0 : Bool) (b1 : Option Addr) (b2 b3 : Nat), DvE w true (.slice a X.length ca) ny (.slice b Y.length cb) g9 g10 (.bool an) (.slice aa al ac) (.bool b0) (.slice b1 b2 b3) wc ∧ NumV wc (.agg #[.bool an, .slice aa al ac]) (signZ nz (x.natAbs / y.natAbs)) ∧ NumV wc (.agg #[.bool b0, .slice b1 b2 b3]) (x % y))
          case first =>
            have est := es.drew
            have hAt : NumV w7.drew (.agg #[.bool an, .slice aa al ac]) (signZ nz (x.natAbs / y.natAbs)) := hA7
            have hBt : NumV w7.drew (.agg #[.bool true, .slice ba bl bc]) (signZ true p) := hB7
            go_region_with (first
              | (go_at_call 62; (with_reducible refine (make1_any false b cb Y _ (hdb.below (DvE.bel est) (Nat.le_refl _)) cY1 hb hmm).mono ?_); rintro e wM ⟨rM, rfl, hM, hb1⟩; replace est := est.keep hb1; replace hAt := hAt.below hb1 (Nat.le_refl _); replace hBt := hBt.below hb1 (Nat.le_refl _); obtain ⟨k0, k1, -⟩ := est.b10.c2)
              | (go_at_call 26; (with_reducible refine (RAdd_any _ hBt hM sB sY).mono ?_); rintro e wS ⟨rS, rfl, hS, hb1⟩; replace est := est.keep hb1; replace hAt := hAt.below hb1 (Nat.le_refl _); obtain ⟨k0, k1, kf⟩ := est.b10.c2; have kf0 := kf 0; have kf1 := kf 1; obtain ⟨sn, sa, sl, sc, rfl⟩ := hS.parts))
            all_goals
              go_wp2_with fail
              go_meet
              exact ⟨sn, sa, sl, sc, est.put10 hg9 hg10 _ _, hAt.store est.b10 _ _, by rw [← HB1.out]; exact hS.store est.b10 _ _⟩
          case rest =>
            obtain ⟨b0, b1, b2, b3, es, hA7, hB7⟩ := hcut
            clear y0 y1 k0 k1
            obtain ⟨y0, y1, -⟩ := es.by_.c2
            have est := es.drew
            have hAt : NumV wc.drew (.agg #[.bool an, .slice aa al ac]) (signZ nz (x.natAbs / y.natAbs)) := hA7
            have hBt : NumV wc.drew (.agg #[.bool b0, .slice b1 b2 b3]) (x % y) := hB7
            obtain ⟨k0, k1, -⟩ := es.b9.c2
            cases ny with
            | true =>
              have HA2 : Hid (signZ nz (x.natAbs / y.natAbs) + 1 = x / y) := hide (by have := HA1.out; simpa using this)
              go_upto_region 17 with (fail)
              go_region_with (first
                | (go_at_call 19; (with_reducible refine (RInt_any 1 _ (by decide) (by decide)).mono ?_); rintro e wM ⟨rM, rfl, hM, hb1⟩; replace est := est.keep hb1; replace hAt := hAt.below hb1 (Nat.le_refl _); replace hBt := hBt.below hb1 (Nat.le_refl _); obtain ⟨k0, k1, -⟩ := est.b9.c2)
                | (go_at_call 26; (with_reducible refine (RAdd_any _ hAt hM sA s1).mono ?_); rintro e wS ⟨rS, rfl, hS, hb1⟩; replace est := est.keep hb1; replace hBt := hBt.below hb1 (Nat.le_refl _); obtain ⟨k0, k1, kf⟩ := est.b9.c2; have kf0 := kf 0; have kf1 := kf 1; obtain ⟨sn, sa, sl, sc, rfl⟩ := hS.parts))
              all_goals
                go_wp2_with fail
                go_meet
                exact ⟨sn, sa, sl, sc, _, _, _, _, est.put9 hg9 hg10 _ _, by rw [← HA2.out]; exact hS.store est.b9 _ _, hBt.store est.b9 _ _⟩
            | false =>
              have HA2 : Hid (signZ nz (x.natAbs / y.natAbs) + -1 = x / y) := hide (by have := HA1.out; simpa using this)
              go_upto_region 18 with (fail)
              go_region_with (first
                | (go_at_call 19; (with_reducible refine (RInt_any (-1) _ (by decide) (by decide)).mono ?_); rintro e wM ⟨rM, rfl, hM, hb1⟩; replace est := est.keep hb1; replace hAt := hAt.below hb1 (Nat.le_refl _); replace hBt := hBt.below hb1 (Nat.le_refl _); obtain ⟨k0, k1, -⟩ := est.b9.c2)
                | (go_at_call 26; (with_reducible refine (RAdd_any _ hAt hM sA s2).mono ?_); rintro e wS ⟨rS, rfl, hS, hb1⟩; replace est := est.keep hb1; replace hBt := hBt.below hb1 (Nat.le_refl _); obtain ⟨k0, k1, kf⟩ := est.b9.c2; have kf0 := kf 0; have kf1 := kf 1; obtain ⟨sn, sa, sl, sc, rfl⟩ := hS.parts))
              all_goals
                go_wp2_with fail
                go_meet
                exact ⟨sn, sa, sl, sc, _, _, _, _, est.put9 hg9 hg10 _ _, by rw [← HA2.out]; exact hS.store est.b9 _ _, hBt.store est.b9 _ _⟩
      case rest =>
        obtain ⟨a0, a1, a2, a3, b0, b1, b2, b3, es, hA, hB⟩ := hcut
        clear k0 k1 hA7 hB7
        obtain ⟨k0, k1, -⟩ := es.b9.c2
        obtain ⟨l0, l1, -⟩ := es.b10.c2
        obtain ⟨z0, z1, zf⟩ := es.bz.c2
        obtain ⟨v0, v1, vf⟩ := es.bv.c2
        have zf0 := zf 0
        have zf1 := zf 1
        have vf0 := vf 0
        have vf1 := vf 1
        have hbz := ((es.bz.two (.bool a0) (.slice a1 a2 a3)).far (p := ⟨w.heap.size + 1 + 1 + 1, 0, none⟩) (by simp) (.bool b0)).far (p := ⟨w.heap.size + 1 + 1 + 1, 1, none⟩) (by simp) (.slice b1 b2 b3)
        have hv1 := (es.bv.far (p := ⟨w.heap.size + 1 + 1, 0, none⟩) (by simp) (.bool a0)).far (p := ⟨w.heap.size + 1 + 1, 1, none⟩) (by simp) (.slice a1 a2 a3)
        have hbv := hv1.two (.bool b0) (.slice b1 b2 b3)
        obtain ⟨f0, f1, -⟩ := hbz.c2
        obtain ⟨m0, m1, -⟩ := hbv.c2
        have hAf := (hA.store es.bz (.bool a0) (.slice a1 a2 a3)).store hv1 (.bool b0) (.slice b1 b2 b3)
        have hBf := (hB.store es.bz (.bool a0) (.slice a1 a2 a3)).store hv1 (.bool b0) (.slice b1 b2 b3)
        have hBl := (((es.bel.setCell (p := ⟨w.heap.size + 1 + 1, 0, none⟩) (by simp; omega) (.bool a0)).setCell (p := ⟨w.heap.size + 1 + 1, 1, none⟩) (by simp; omega) (.slice a1 a2 a3)).setCell (p := ⟨w.heap.size + 1 + 1 + 1, 0, none⟩) (by simp; omega) (.bool b0)).setCell (p := ⟨w.heap.size + 1 + 1 + 1, 1, none⟩) (by simp; omega) (.slice b1 b2 b3)
        go_wp2_with fail
        go_region
        go_wp2_with fail
        refine bodyPost_ret (v := .tuple #[.agg #[.bool a0, .slice a1 a2 a3], .agg #[.bool b0, .slice b1 b2 b3]]) (by simp [results, Tryd.results24, go_sem, f0, f1, m0, m1]) rfl ?_
        rw [← HP.out, if_neg HYN.out, if_neg HYN.out]
        exact ⟨_, _, rfl, hAf, hBf, hBl.drew⟩
    · rw [show (((k + 1 : Nat) : Int) - 1) = (k : Int) by omega]
      have hk : k < X.length := by omega
      obtain ⟨b1, o1, rfl, hc1, hl1⟩ := hda.at hk
      replace hc1 := (s.bel.cell (p := ⟨b1, o1 + k, none⟩) hl1).trans hc1
      have hd9 := dX.at hk
      have HDN := hide (fun (t g : Nat) (he : X[k] + 10 * p = t * val 10 Y + g) (hg : g < val 10 Y) => hD.next hk he hg hd9)
      have HQ0 : Hid (Q.set k 0 = Q) := hide (by
        have h1 := hD.lo k (by omega) (by rw [hD.len]; exact hk)
        apply List.ext_getElem?
        intro j
        by_cases hj : j = k
        · subst hj; rw [h1, List.getElem?_set_self (by rw [hD.len]; exact hk)]
        · rw [List.getElem?_set_ne (by omega)])
      have hql := hD.len
      have hplt := hD.lt
      generalize X[k] = d at hc1 hd9 HDN
      have ho1 := own_one wr d
      have hrd1 := s.rd.below (w := wr) (w' := wr.alloc (.cells #[.int .i64 (d : Int)] 3)) ((Below.refl _ _).alloc (Nat.le_refl _) _) (Nat.le_refl _)
      have hrf1 := s.rf
      have HTR : Hid (trim (d :: dg 10 p) = dg 10 (d + 10 * p)) := hide (by
        rw [trim_dg T2 (by intro z hz; simp at hz; rcases hz with rfl | hz; exact hd9; exact (dg_canon T2 p).1 z hz)]
        congr 1
        show d + 10 * val 10 (dg 10 p) = _
        rw [dg_val T2])
      have hrn1 := s.rn
      obtain ⟨GO, hGO⟩ : ∃ GO : Nat, GO = k := ⟨_, rfl⟩
      go_wp2_with (at_builtin; refine wpList_append_isrc rfl (.tmp 35) (.tmp 36) rfl wr.heap.size _ [d] rfl ho1 ra rc (dg 10 p) rfl hrf1 hrd1 ?c1 ?c2 ?_)
      case c1 => simp; omega
      case c2 => simp
      intro v' w2 ho2 hb2
      have hb3 : Below wr.heap.size wr w2 := ((Below.refl _ _).alloc (Nat.le_refl _) _).trans hb2
      obtain ⟨va, vc, rfl⟩ := own_slice ho2
      obtain ⟨hD2, hf2⟩ := own_dg ho2
      have hfr := own_fresh ho2
      clear ho1 ho2 hb2 hrd1 hrf1 hrn1 c0 c1 d0 d1
      go_wp2_with fail
      refine (rcut_any va vc _ w2 hD2 hf2 (by simp; omega)).mono ?_
      rintro e w3 ⟨rfl, rfl⟩
      have hD3 := hD2.trim
      have hf3 := hf2.trim
      rw [HTR.out] at hD3 hf3 ⊢
      have t0 := s.grow hb3 hD3 hf3 hfr
      rw [← HQ0.out] at t0
      clear hD2 hf2 hD3 hf3 hfr s hb3
      have hd0 : d + 10 * p < 10 * val 10 Y := by omega
      generalize hpe : d + 10 * p = N at *
      clear hpe
      go_wp2_with fail
      go_loopg [7] N (fun g v wi => ∃ (t : Nat) (ra : Option Addr) (rc : Nat), v = .slice ra (dg 10 g).length rc ∧ Hid (N = t * val 10 Y + g) ∧ t ≤ 9 ∧ DvW w nx (.slice (some ⟨b1, o1, none⟩) X.length ca) ny (.slice b Y.length cb) G (Q.set k t) ra rc g wi)
      case atStart => exact ⟨0, va, vc, rfl, hide (by omega), by omega, t0⟩
      case round =>
        obtain ⟨t, ra2, rc2, rfl, HN, ht9, tt⟩ := hrel
        clear t0
        obtain ⟨c0, c1, -⟩ := tt.bx.c2
        obtain ⟨d0, d1, -⟩ := tt.by_.c2
        have hgl : (dg 10 gk).length ≤ 100000000002 := by
          have h1 : gk ≤ 10 * val 10 Y := by have := HN.out; omega
          have h2 := dg_len_mono T2 h1
          have h3 := dg_len_mul T2 10 (val 10 Y)
          rw [dg_of T2 cY rfl] at h3
          have h4 : (dg 10 10).length = 2 := rfl
          omega
        have hdbw := hdb.below tt.bel (Nat.le_refl _)
        have hrd2 := tt.rd
        go_wp2_with fail
        refine (rcmp_any ra2 b rc2 cb (dg 10 gk) Y _ hrd2 hdbw (dg_canon T2 gk) cY (by omega)).mono ?_
        rintro e w4 ⟨rfl, n, rfl⟩
        rw [dg_val T2]
        have ttn := tt.drewN n
        clear tt hdbw hrd2 c0 c1 d0 d1
        generalize wr.drewN n = w5 at ttn ⊢
        obtain ⟨c0, c1, -⟩ := ttn.bx.c2
        obtain ⟨d0, d1, -⟩ := ttn.by_.c2
        rcases Nat.lt_or_ge gk (val 10 Y) with hlt | hge
        · rw [show ordZ (gk : Int) (val 10 Y : Nat) = -1 by unfold ordZ; rw [if_pos (by omega)]]
          have hDn := HDN.out t gk HN.out hlt
          clear hlt
          go_wp2_with fail
          go_roundg k
          case measure => omega
          case rel => exact ⟨_, gk, ra2, rc2, rfl, by omega, rfl, hDn, ttn⟩
        · have ho : 0 ≤ ordZ (gk : Int) (val 10 Y : Nat) := by unfold ordZ; rw [if_neg (by omega)]; split <;> omega
          generalize ordZ (gk : Int) (val 10 Y : Nat) = o at ho ⊢
          have e2 : decide ((0 : Int) ≤ o) = true := decide_eq_true ho
          have hln : Y.length ≤ (dg 10 gk).length := by
            have h1 := dg_len_mono T2 hge
            rw [dg_of T2 cY rfl] at h1
            exact h1
          have ht9' : t < 9 := by
            rcases Nat.lt_or_ge t 9 with h | h
            · exact h
            · have h1 := HN.out
              have h2 : 9 * val 10 Y ≤ t * val 10 Y := Nat.mul_le_mul_right _ h
              omega
          have hdbw := hdb.below ttn.bel (Nat.le_refl _)
          have hvg : val 10 Y ≤ val 10 (dg 10 gk) := by rw [dg_val T2]; exact hge
          have HN2 : Hid (N = (t + 1) * val 10 Y + (gk - val 10 Y)) := hide (by have := HN.out; rw [Nat.add_mul]; omega)
          go_wp2_with fail
          refine (rsub_any ra2 b rc2 cb (dg 10 gk) Y w5 ttn.rd hdbw (dg_canon T2 gk).1 cY.1 (by omega) hln hvg).mono ?_
          rintro e w6 ⟨ra3, rc3, rfl, hf3, hd3, hfr3, hb6⟩
          rw [dg_val T2] at hf3 hd3 ⊢
          have t6 := ttn.grow hb6 hd3 hf3 hfr3
          have hkk : k < (Q.set k t).length := by simp; omega
          have hco := t6.row.cell hkk
          rw [List.getElem_set_self] at hco
          have hfo := t6.row.frozen k
          have t7 := t6.set hG k (t + 1)
          rw [List.set_set] at t7
          have hq1 : ((t + 1 : Nat) : Int) = (t : Int) + 1 := by omega
          rw [hq1] at t7
          clear c0 c1 d0 d1 ttn hdbw hf3 hd3 hfr3 hb6 t6 hkk hln hvg HN
          go_wp2_with fail
          go_roundg (gk - val 10 Y)
          case measure => omega
          case rel => exact ⟨t + 1, ra3, rc3, rfl, HN2, by omega, t7⟩
end Go.Proofs.YthpibilefdmemaaDoor
