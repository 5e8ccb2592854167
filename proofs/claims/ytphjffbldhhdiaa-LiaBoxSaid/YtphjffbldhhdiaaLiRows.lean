/- collatorlaw18.rowsOf: by its contract. -/
import Derived.Test.YtphjffbldhhdiaaLiRaw
import Derived.Test.YtphjffbldhhdiaaSxLayM
import Derived.Test.YtphjffbldhhdiaaSxOwn
import Derived.Laws.AppendOwnNone
import Derived.Deep.AppendLies
namespace Go.Proofs.Ytphjffbldhhdiaa
open Go.RowKit

def zeroI : Value := .agg #[.bool false, .slice none 0 0]
theorem infoInt : (Try.prog.info? 38).map (fun i => (i.zero, i.size, i.bytes)) = some (some zeroI, 2, 32) := by kernel_rfl
/-- A row's three cells. -/
def LRow.cells (r : LRow) : List Value := [.slice r.at_ r.xs.length r.cap, .bool r.most.neg, .slice r.most.at_ r.most.ds.length r.most.cap]
theorem LRow.cells_len (rs : List LRow) : (rs.flatMap LRow.cells).length = rs.length * 3 := by
 induction rs with
 | nil => rfl
 | cons r rs ih => rw [List.flatMap_cons, List.length_append, ih]; simp [LRow.cells]; omega
theorem LRow.cells_at : ∀ (rs : List LRow) (i : Nat) (h : i < rs.length) (d : Nat), d < 3 → (rs.flatMap LRow.cells)[i * 3 + d]? = (rs[i]).cells[d]?
 | r :: rs, 0, _, d, hd => by
  rw [List.flatMap_cons, Nat.zero_mul, Nat.zero_add, List.getElem?_append_left (by simp [LRow.cells]; omega)]
  rfl
 | r :: rs, i + 1, h, d, hd => by
  rw [List.flatMap_cons, List.getElem?_append_right (by simp [LRow.cells]; omega)]
  have ih := LRow.cells_at rs i (by simpa using h) d hd
  rw [show (i + 1) * 3 + d - r.cells.length = i * 3 + d from by simp [LRow.cells]; omega, ih]
  rfl
theorem infoIR : (Try.prog.info? 45).map (fun i => (i.zero, i.size, i.bytes)) = some (some (.agg #[.slice none 0 0, .bool false, .slice none 0 0]), 3, 56) := by kernel_rfl
theorem news_three (w : World) (x y z : Value) (t : TypeId) : ∀ j a, [x, y, z][j]? = some a → (w.alloc (.cells #[x, y, z] t)).cell? ((⟨w.heap.size, 0, none⟩ : Addr).add j) = some a := World.news_of_block (heap_alloc_new w _)
/-- What Rows leaves. -/
def IRowsPost (w : World) (rs : List LRow) (e : Ending) (w' : World) : Prop := Below w.heap.size w w' ∧ ∃ g k, w.heap.size ≤ g ∧ e = .returned (.slice (some ⟨g, 0, none⟩) rs.length k) ∧ IRowsAt w' (some ⟨g, 0, none⟩) rs
/-- Rows that are made. -/
def MadeI (w : World) (N : Nat) (t : TypeId) (v : Value) (rs : List LRow) : Prop := w.ownsRow N t 3 v rs.length (rs.flatMap LRow.cells)
theorem MadeI.rows {w W : World} {N : Nat} {t : TypeId} {rs : List LRow} {g c : Nat} {a : Option Addr} (h : MadeI W N t (.slice (some ⟨g, 0, none⟩) rs.length c) rs) (hx : IRowsAt w a rs) (hb : Below w.heap.size w W) : IRowsAt W (some ⟨g, 0, none⟩) rs := fun h0 => by
 refine ⟨g, 0, rfl, fun i hi => ?_⟩
 obtain ⟨g', cs, e, _, hblk, hcs⟩ := own_cells h (by omega)
 obtain rfl : g = g' := by injection e with e; injection e
 have hcell : ∀ d, d < 3 → W.cell? ⟨g, 0 + i * 3 + d, none⟩ = (rs[i]).cells[d]? := fun d hd => by
  rw [Nat.zero_add, hblk.cell, hcs _ (by omega), LRow.cells_at rs i hi d hd]
 obtain ⟨b, o, _, hr⟩ := hx h0
 obtain ⟨_, r2, r3, _, _, m5⟩ := (hr i hi).below hb (Nat.le_refl _)
 exact ⟨hcell 0 (by decide), r2, r3, hcell 1 (by decide), hcell 2 (by decide), m5⟩

set_option maxRecDepth 100000 in
set_option maxHeartbeats 3200000 in
theorem irows_any (a : Option Addr) (cap : Nat) (rs : List LRow) (w : World) (hx : IRowsAt w a rs) (hl : rs.length * 56 ≤ 140737488351232) :
  Calls Try.prog 11 #[.slice a rs.length cap] w (IRowsPost w rs) := by
 generalize hP : IRowsPost w rs = Post
 have HP := hide hP
 clear hP
 have HX := hide hx
 clear hx
 obtain ⟨N, hN⟩ : ∃ N, w.heap.size = N := ⟨_, rfl⟩
 have h0 : MadeI (w.alloc (.cells #[] 45)) N 45 (.slice (some ⟨w.heap.size, 0, none⟩) 0 0) [] := World.ownsRow_made w #[] 0 (by omega) (by unfold maxLen; omega) rfl
 have hb0 : Below N w (w.alloc (.cells #[] 45)) := by rw [← hN]; exact (Below.refl _ _).alloc (Nat.le_refl _) _
 obtain ⟨W, hW⟩ : ∃ W, w.alloc (.cells #[] 45) = W := ⟨_, rfl⟩
 rw [hW] at h0 hb0
 rw [hN] at h0
 have HW := hide hW
 have HN := hide hN
 clear hW hN
 go_enter Try.func11, Try.ntmps11
 go_upto_region 2 with (fail)
 rw [HW.out, HN.out]
 clear HW
 go_wp2_with fail
 go_loopg [3, 9] rs.length (fun k v3 v9 wr => ∃ (j g c : Nat), j + k = rs.length ∧ v9 = .int .i64 (j : Int) ∧ v3 = .slice (some ⟨g, 0, none⟩) j c ∧ Below N w wr ∧ N ≤ wr.heap.size ∧ Hid (N ≤ g ∧ MadeI wr N 45 (.slice (some ⟨g, 0, none⟩) j c) (rs.take j)))
 case atStart => exact ⟨0, N, 0, by omega, rfl, rfl, hb0, by have := hb0.size; rw [HN.out] at this; exact this, hide ⟨Nat.le_refl _, h0⟩⟩
 case round =>
  clear h0 hb0
  obtain ⟨j, g, c, hjk, rfl, rfl, hB, hBN, HM⟩ := hrel
  rcases Nat.eq_zero_or_pos gk with h0 | h0
  ·subst h0
   obtain hj : j = rs.length := by omega
   subst hj
   go_wp2_with fail
   rw [← HP.out]
   have hm := HM.out.2
   rw [List.take_length] at hm
   refine ⟨by rw [HN.out]; exact hB, g, c, by rw [HN.out]; exact HM.out.1, rfl, hm.rows HX.out (by rw [HN.out]; exact hB)⟩
  ·have hj : j < rs.length := by omega
   have ej : (j : Int) < (rs.length : Int) := by omega
   obtain ⟨b, o, rfl, hr⟩ := HX.out (by omega)
   obtain ⟨r0, -, -, m0, m1, -⟩ := (hr j hj).below hB (Nat.le_of_eq HN.out)
   have htk : rs.take (j + 1) = rs.take j ++ [rs[j]] := by rw [List.take_succ_eq_append_getElem hj]
   have hlt : (rs.take j).length = j := by rw [List.length_take]; omega
   obtain ⟨r, hrr⟩ : ∃ r, rs[j] = r := ⟨_, rfl⟩
   rw [hrr] at r0 m0 m1 htk
   replace hr := hide hr
   have HTK := hide htk
   have HLT := hide hlt
   clear hrr htk hlt
   obtain ⟨W2, hW2⟩ : ∃ W2, wr.alloc (.cells #[.slice r.at_ r.xs.length r.cap, .bool r.most.neg, .slice r.most.at_ r.most.ds.length r.most.cap] 48) = W2 := ⟨_, rfl⟩
   have bx : Blk W2 wr.heap.size 48 #[.slice r.at_ r.xs.length r.cap, .bool r.most.neg, .slice r.most.at_ r.most.ds.length r.most.cap] := by rw [← hW2]; exact Blk.new _ _ _
   have sb2 : Below wr.heap.size wr W2 := by rw [← hW2]; exact (Below.refl _ _).alloc (Nat.le_refl _) _
   have hm2 : W2.ownsRow N 45 3 (.slice (some ⟨g, 0, none⟩) j c) j ((rs.take j).flatMap LRow.cells) := by
    have hm := HM.out.2
    unfold MadeI at hm
    rw [HLT.out] at hm
    exact own_stays hm (fun k hk => sb2.block k (hm.lt k hk).2)
   obtain ⟨gx, hgx⟩ : ∃ gx, wr.heap.size = gx := ⟨_, rfl⟩
   have hB2 : Below N w W2 := hB.trans (sb2.mono hBN)
   have hBN2 : N ≤ W2.heap.size := Nat.le_trans hBN sb2.size
   rw [hgx] at bx
   have HW2 := hide hW2
   have HGX := hide hgx
   clear hW2 hgx sb2 hB hBN
   go_upto_region 5 with (fail)
   rw [HW2.out, HGX.out]
   clear HW2 HGX r0 m0 m1
   have x0 : W2.cell? ⟨gx, 0, none⟩ = some (.slice r.at_ r.xs.length r.cap) := bx.cell 0
   have x1 : W2.cell? ⟨gx, 1, none⟩ = some (.bool r.most.neg) := bx.cell 1
   have x2 : W2.cell? ⟨gx, 2, none⟩ = some (.slice r.most.at_ r.most.ds.length r.most.cap) := bx.cell 2
   have hB4 : Below N w (W2.alloc (.cells #[.slice r.at_ r.xs.length r.cap, .bool r.most.neg, .slice r.most.at_ r.most.ds.length r.most.cap] 45)) := hB2.alloc hBN2 _
   have hown := hm2.alloc (.cells #[.slice r.at_ r.xs.length r.cap, .bool r.most.neg, .slice r.most.at_ r.most.ds.length r.most.cap] 45)
   have HOW := hide hown
   have HB4 := hide hB4
   obtain ⟨i0, hi0, hz0, hz1, hz2⟩ := info_parts infoIR
   clear hown hB4 hm2 bx
   go_wp2_with (at_builtin; refine wpList_append_lies _ rfl (.tmp 13) (.tmp 19) 32 rfl N 45 i0 (.agg #[.slice none 0 0, .bool false, .slice none 0 0]) 3 56 Try.underlying32 hi0 hz0 hz1 hz2 rfl (by decide) (.slice (some ⟨g, 0, none⟩) j c) j _ rfl HOW.out ⟨W2.heap.size, 0, none⟩ 1 1 r.cells rfl rfl (news_three _ _ _ _ _) ?c1 (by decide) ?c2 ?c3 ?c4 (W2.heap.size + 1) ?c5 ?_)
   case c1 => simp [LRow.cells, Value.oneCell']
   case c2 => unfold maxLen; omega
   case c3 => omega
   case c4 => simp; omega
   case c5 => simp
   intro g' cp w1 hown hgrow hat hlt
   have hB5 : Below N w w1 := HB4.out.grown hgrow (by simp; omega) (fun k hk => by obtain rfl := Option.some.inj hk; exact HM.out.1)
   have hBN5 : N ≤ w1.heap.size := by have := hgrow.size; simp at this; omega
   have hg' : N ≤ g' := by
    have := (hown.lt g' rfl).1
    exact this
   have HM2 : Hid (N ≤ g' ∧ MadeI w1 N 45 (.slice (some ⟨g', 0, none⟩) (j + 1) cp) (rs.take (j + 1))) := hide ⟨hg', by
    unfold MadeI
    rw [HTK.out, List.flatMap_append, List.length_append, HLT.out]
    simpa using hown⟩
   clear hown hgrow hat hlt HOW HB4 x0 x1 x2
   go_wp2_with fail
   go_roundg (gk - 1)
   case measure => omega
   case rel => exact ⟨j + 1, g', cp, by omega, by go_num, rfl, hB5, hBN5, HM2⟩
end Go.Proofs.Ytphjffbldhhdiaa
