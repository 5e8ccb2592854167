/- What the laws of collatorlaw17 begin with: of, Rows, Great. -/
import Derived.Test.YtphjffbldhhdiaaGreatDoorSxRaw
import Derived.Test.YtphjffbldhhdiaaGreatDoorSxMake
import Derived.Test.YtphjffbldhhdiaaGreatDoorSxLayM
import Derived.Laws.AppendOwnNone
import Derived.Deep.AppendLies
namespace Go.Proofs.YtphjffbldhhdiaaGreatDoor
open Go.RowKit

set_option maxRecDepth 100000 in
set_option maxHeartbeats 1600000 in
theorem of_any (n : Int) (w : World) (h1 : -9223372036854775808 ≤ n) (h2 : n ≤ 9223372036854775807) : Calls Tryz.prog 16 #[.int .i64 n] w (FracPost w (n : Rat)) := by
  generalize hP : FracPost w (n : Rat) = Post
  have HP := hide hP
  clear hP
  obtain ⟨W, hW⟩ : ∃ W, w.alloc (.cells #[.bool false, .slice none 0 0, .bool false, .slice none 0 0] 39) = W := ⟨_, rfl⟩
  have bx : Blk W w.heap.size 39 #[.bool false, .slice none 0 0, .bool false, .slice none 0 0] := by rw [← hW]; exact Blk.new w _ _
  have sb : Below w.heap.size w W := by rw [← hW]; exact (Below.refl w.heap.size w).alloc (Nat.le_refl _) _
  have HW := hide hW
  have hsm : Sm n := sm_small (Nat.lt_of_le_of_lt (m := 9223372036854775808) (by omega) (by decide))
  clear hW
  go_enter Tryz.func16, Tryz.ntmps16
  go_upto_region 1 with (fail)
  rw [HW.out]
  clear HW
  go_wp2_with fail
  refine (Of_any n W h1 h2).mono ?_
  rintro e w1 ⟨rA, rfl, hA, hb1⟩
  go_wp2_with fail
  refine (FOf2_any w1 hA hsm).mono ?_
  rintro e w2 ⟨rC, rfl, hC, hb2⟩
  have b2 := (bx.below hb1 bx.lt).below hb2 (Nat.lt_of_lt_of_le bx.lt hb1.size)
  have sb2 := (sb.trans (hb1.mono sb.size)).trans (hb2.mono (Nat.le_trans sb.size hb1.size))
  obtain ⟨un, ua, ul, uk, um, ub, ui, uj, rfl, -, -⟩ := FracV.parts hC
  have hI := FrV.st4 hC b2 (.bool un) (.slice ua ul uk) (.bool um) (.slice ub ui uj)
  obtain ⟨e0, e1, e2, e3, -⟩ := (b2.four (.bool un) (.slice ua ul uk) (.bool um) (.slice ub ui uj)).c4
  obtain ⟨z0, z1, z2, z3, zf⟩ := b2.c4
  go_wp2_with fail
  refine bodyPost_ret (v := Value.agg #[.bool un, .slice ua ul uk, .bool um, .slice ub ui uj]) (by simp [results, Tryz.results16, go_sem, e0, e1, e2, e3]) rfl ?_
  rw [← HP.out]
  exact ⟨_, rfl, hI, set4b sb2 (Nat.le_refl _) _ _ _ _⟩

/-- A row's five cells. -/
def RRow.cells (r : RRow) : List Value := [.slice r.at_ r.xs.length r.cap, .bool r.most.up.neg, .slice r.most.up.at_ r.most.up.ds.length r.most.up.cap, .bool r.most.dn.neg, .slice r.most.dn.at_ r.most.dn.ds.length r.most.dn.cap]
theorem RRow.cells_len (rs : List RRow) : (rs.flatMap RRow.cells).length = rs.length * 5 := by
  induction rs with
  | nil => rfl
  | cons r rs ih => rw [List.flatMap_cons, List.length_append, ih]; simp [RRow.cells]; omega
theorem RRow.cells_at : ∀ (rs : List RRow) (i : Nat) (h : i < rs.length) (d : Nat), d < 5 → (rs.flatMap RRow.cells)[i * 5 + d]? = (rs[i]).cells[d]?
  | r :: rs, 0, _, d, hd => by
    rw [List.flatMap_cons, Nat.zero_mul, Nat.zero_add, List.getElem?_append_left (by simp [RRow.cells]; omega)]
    rfl
  | r :: rs, i + 1, h, d, hd => by
    rw [List.flatMap_cons, List.getElem?_append_right (by simp [RRow.cells]; omega)]
    have ih := RRow.cells_at rs i (by simpa using h) d hd
    rw [show (i + 1) * 5 + d - r.cells.length = i * 5 + d from by simp [RRow.cells]; omega, ih]
    rfl
theorem infoR : (Tryz.prog.info? 44).map (fun i => (i.zero, i.size, i.bytes)) = some (some (.agg #[.slice none 0 0, .bool false, .slice none 0 0, .bool false, .slice none 0 0]), 5, 88) := by kernel_rfl
theorem news_five (w : World) (x y z u v : Value) (t : TypeId) : ∀ j a, [x, y, z, u, v][j]? = some a → (w.alloc (.cells #[x, y, z, u, v] t)).cell? ((⟨w.heap.size, 0, none⟩ : Addr).add j) = some a := World.news_of_block (heap_alloc_new w _)
/-- What Rows leaves. -/
def RowsPost (w : World) (rs : List RRow) (e : Ending) (w' : World) : Prop := Below w.heap.size w w' ∧ ∃ g k, w.heap.size ≤ g ∧ e = .returned (.slice (some ⟨g, 0, none⟩) rs.length k) ∧ RowsAt w' (some ⟨g, 0, none⟩) rs
/-- Rows that are made. -/
def MadeR (w : World) (N : Nat) (t : TypeId) (v : Value) (rs : List RRow) : Prop := w.ownsRow N t 5 v rs.length (rs.flatMap RRow.cells)
theorem MadeR.rows {w W : World} {N : Nat} {t : TypeId} {rs : List RRow} {g c : Nat} {a : Option Addr} (h : MadeR W N t (.slice (some ⟨g, 0, none⟩) rs.length c) rs) (hx : RowsAt w a rs) (hb : Below w.heap.size w W) : RowsAt W (some ⟨g, 0, none⟩) rs := fun h0 => by
  refine ⟨g, 0, rfl, fun i hi => ?_⟩
  obtain ⟨g', cs, e, _, hblk, hcs⟩ := own_cells h (by omega)
  obtain rfl : g = g' := by injection e with e; injection e
  have hcell : ∀ d, d < 5 → W.cell? ⟨g, 0 + i * 5 + d, none⟩ = (rs[i]).cells[d]? := fun d hd => by
    rw [Nat.zero_add, hblk.cell, hcs _ (by omega), RRow.cells_at rs i hi d hd]
  obtain ⟨b, o, _, hr⟩ := hx h0
  obtain ⟨_, r2, r3, _, _, _, _, m5⟩ := (hr i hi).below hb (Nat.le_refl _)
  exact ⟨hcell 0 (by decide), r2, r3, hcell 1 (by decide), hcell 2 (by decide), hcell 3 (by decide), hcell 4 (by decide), m5⟩

set_option maxRecDepth 100000 in
set_option maxHeartbeats 3200000 in
theorem rows_any (a : Option Addr) (cap : Nat) (rs : List RRow) (w : World) (hx : RowsAt w a rs) (hl : rs.length * 88 ≤ 140737488351232) :
    Calls Tryz.prog 9 #[.slice a rs.length cap] w (RowsPost w rs) := by
  generalize hP : RowsPost w rs = Post
  have HP := hide hP
  clear hP
  have HX := hide hx
  clear hx
  obtain ⟨N, hN⟩ : ∃ N, w.heap.size = N := ⟨_, rfl⟩
  have h0 : MadeR (w.alloc (.cells #[] 44)) N 44 (.slice (some ⟨w.heap.size, 0, none⟩) 0 0) [] := World.ownsRow_made w #[] 0 (by omega) (by unfold maxLen; omega) rfl
  have hb0 : Below N w (w.alloc (.cells #[] 44)) := by rw [← hN]; exact (Below.refl _ _).alloc (Nat.le_refl _) _
  obtain ⟨W, hW⟩ : ∃ W, w.alloc (.cells #[] 44) = W := ⟨_, rfl⟩
  rw [hW] at h0 hb0
  rw [hN] at h0
  have HW := hide hW
  have HN := hide hN
  clear hW hN
  go_enter Tryz.func9, Tryz.ntmps9
  go_upto_region 2 with (fail)
  rw [HW.out, HN.out]
  clear HW
  go_wp2_with fail
  go_loopg [3, 9] rs.length (fun k v3 v9 wr => ∃ (j g c : Nat), j + k = rs.length ∧ v9 = .int .i64 (j : Int) ∧ v3 = .slice (some ⟨g, 0, none⟩) j c ∧ Below N w wr ∧ N ≤ wr.heap.size ∧ Hid (N ≤ g ∧ MadeR wr N 44 (.slice (some ⟨g, 0, none⟩) j c) (rs.take j)))
  case atStart => exact ⟨0, N, 0, by omega, rfl, rfl, hb0, by have := hb0.size; rw [HN.out] at this; exact this, hide ⟨Nat.le_refl _, h0⟩⟩
  case round =>
    clear h0 hb0
    obtain ⟨j, g, c, hjk, rfl, rfl, hB, hBN, HM⟩ := hrel
    rcases Nat.eq_zero_or_pos gk with h0 | h0
    · subst h0
      obtain hj : j = rs.length := by omega
      subst hj
      go_wp2_with fail
      rw [← HP.out]
      have hm := HM.out.2
      rw [List.take_length] at hm
      refine ⟨by rw [HN.out]; exact hB, g, c, by rw [HN.out]; exact HM.out.1, rfl, hm.rows HX.out (by rw [HN.out]; exact hB)⟩
    · have hj : j < rs.length := by omega
      have ej : (j : Int) < (rs.length : Int) := by omega
      obtain ⟨b, o, rfl, hr⟩ := HX.out (by omega)
      obtain ⟨r0, -, -, m0, m1, m2, m3, -⟩ := (hr j hj).below hB (Nat.le_of_eq HN.out)
      have htk : rs.take (j + 1) = rs.take j ++ [rs[j]] := by rw [List.take_succ_eq_append_getElem hj]
      have hlt : (rs.take j).length = j := by rw [List.length_take]; omega
      obtain ⟨r, hrr⟩ : ∃ r, rs[j] = r := ⟨_, rfl⟩
      rw [hrr] at r0 m0 m1 m2 m3 htk
      replace hr := hide hr
      have HTK := hide htk
      have HLT := hide hlt
      clear hrr htk hlt
      obtain ⟨W2, hW2⟩ : ∃ W2, wr.alloc (.cells #[.slice r.at_ r.xs.length r.cap, .bool r.most.up.neg, .slice r.most.up.at_ r.most.up.ds.length r.most.up.cap, .bool r.most.dn.neg, .slice r.most.dn.at_ r.most.dn.ds.length r.most.dn.cap] 43) = W2 := ⟨_, rfl⟩
      have bx : Blk W2 wr.heap.size 43 #[.slice r.at_ r.xs.length r.cap, .bool r.most.up.neg, .slice r.most.up.at_ r.most.up.ds.length r.most.up.cap, .bool r.most.dn.neg, .slice r.most.dn.at_ r.most.dn.ds.length r.most.dn.cap] := by rw [← hW2]; exact Blk.new _ _ _
      have sb2 : Below wr.heap.size wr W2 := by rw [← hW2]; exact (Below.refl _ _).alloc (Nat.le_refl _) _
      have hm2 : W2.ownsRow N 44 5 (.slice (some ⟨g, 0, none⟩) j c) j ((rs.take j).flatMap RRow.cells) := by
        have hm := HM.out.2
        unfold MadeR at hm
        rw [HLT.out] at hm
        exact own_stays hm (fun k hk => sb2.block k (hm.lt k hk).2)
      obtain ⟨gx, hgx⟩ : ∃ gx, wr.heap.size = gx := ⟨_, rfl⟩
      have hB2 : Below N w W2 := hB.trans (sb2.mono hBN)
      have hBN2 : N ≤ W2.heap.size := Nat.le_trans hBN sb2.size
      rw [hgx] at bx
      have HW2 := hide hW2
      have HGX := hide hgx
      clear hW2 hgx sb2 hB hBN
      go_upto_region 5 with (fail)
      rw [HW2.out, HGX.out]
      clear HW2 HGX r0 m0 m1 m2 m3
      have x0 : W2.cell? ⟨gx, 0, none⟩ = some (.slice r.at_ r.xs.length r.cap) := bx.cell 0
      have x1 : W2.cell? ⟨gx, 1, none⟩ = some (.bool r.most.up.neg) := bx.cell 1
      have x2 : W2.cell? ⟨gx, 2, none⟩ = some (.slice r.most.up.at_ r.most.up.ds.length r.most.up.cap) := bx.cell 2
      have x3 : W2.cell? ⟨gx, 3, none⟩ = some (.bool r.most.dn.neg) := bx.cell 3
      have x4 : W2.cell? ⟨gx, 4, none⟩ = some (.slice r.most.dn.at_ r.most.dn.ds.length r.most.dn.cap) := bx.cell 4
      have hB4 : Below N w (W2.alloc (.cells #[.slice r.at_ r.xs.length r.cap, .bool r.most.up.neg, .slice r.most.up.at_ r.most.up.ds.length r.most.up.cap, .bool r.most.dn.neg, .slice r.most.dn.at_ r.most.dn.ds.length r.most.dn.cap] 44)) := hB2.alloc hBN2 _
      have hown := hm2.alloc (.cells #[.slice r.at_ r.xs.length r.cap, .bool r.most.up.neg, .slice r.most.up.at_ r.most.up.ds.length r.most.up.cap, .bool r.most.dn.neg, .slice r.most.dn.at_ r.most.dn.ds.length r.most.dn.cap] 44)
      have HOW := hide hown
      have HB4 := hide hB4
      obtain ⟨i0, hi0, hz0, hz1, hz2⟩ := info_parts infoR
      clear hown hB4 hm2 bx
      go_wp2_with (at_builtin; refine wpList_append_lies _ rfl (.tmp 13) (.tmp 19) 31 rfl N 44 i0 (.agg #[.slice none 0 0, .bool false, .slice none 0 0, .bool false, .slice none 0 0]) 5 88 Tryz.underlying31 hi0 hz0 hz1 hz2 rfl (by decide) (.slice (some ⟨g, 0, none⟩) j c) j _ rfl HOW.out ⟨W2.heap.size, 0, none⟩ 1 1 r.cells rfl rfl (news_five _ _ _ _ _ _ _) ?c1 (by decide) ?c2 ?c3 ?c4 (W2.heap.size + 1) ?c5 ?_)
      case c1 => simp [RRow.cells, Value.oneCell']
      case c2 => unfold maxLen; omega
      case c3 => omega
      case c4 => simp; omega
      case c5 => simp
      intro g' cp w1 hown hgrow hat hlt
      have hB5 : Below N w w1 := HB4.out.grown hgrow (by simp; omega) (fun k hk => by obtain rfl := Option.some.inj hk; exact HM.out.1)
      have hBN5 : N ≤ w1.heap.size := by have := hgrow.size; simp at this; omega
      have hg' : N ≤ g' := by
        have := (hown.lt g' rfl).1
        exact this
      have HM2 : Hid (N ≤ g' ∧ MadeR w1 N 44 (.slice (some ⟨g', 0, none⟩) (j + 1) cp) (rs.take (j + 1))) := hide ⟨hg', by
        unfold MadeR
        rw [HTK.out, List.flatMap_append, List.length_append, HLT.out]
        simpa using hown⟩
      clear hown hgrow hat hlt HOW HB4 x0 x1 x2 x3 x4
      go_wp2_with fail
      go_roundg (gk - 1)
      case measure => omega
      case rel => exact ⟨j + 1, g', cp, by omega, by go_num, rfl, hB5, hBN5, HM2⟩
end Go.Proofs.YtphjffbldhhdiaaGreatDoor
