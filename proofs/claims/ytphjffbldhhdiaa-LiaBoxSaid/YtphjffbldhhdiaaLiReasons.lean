/- lia's reasons: by its contract. -/
import Derived.Test.YtphjffbldhhdiaaLiSt
namespace Go.Proofs.Ytphjffbldhhdiaa
open Go.RowKit

def reasL (m:Nat) (need:Nat → Nat):List Nat:=(List.range m).filter fun i=>decide (0 < need i)
theorem reasL_len (m:Nat) (need:Nat → Nat):(reasL m need).length ≤ m:=Nat.le_trans (List.length_filter_le _ _) (by rw [List.length_range]; exact Nat.le_refl _)
theorem reasL_next {m:Nat} {need:Nat → Nat}:reasL (m + 1) need = reasL m need ++ (if 0 < need m then [m] else []):=by
 unfold reasL
 rw [List.range_succ,List.filter_append]
 by_cases h:0 < need m
 ·rw [if_pos h]; simp [h]
 ·rw [if_neg h]; simp [h]
theorem mem_reasL {m:Nat} {need:Nat → Nat} {i:Nat}:i ∈ reasL m need ↔ i < m ∧ 0 < need i:=by
 unfold reasL
 rw [List.mem_filter,List.mem_range]
 simp
set_option maxRecDepth 100000 in
set_option maxHeartbeats 3200000 in
theorem reasons_any {N:Nat} {S:ISys} {st:LS} {L:LSp} (w:World) (h:LiW N w S st L) (hm:S.m ≤ 1000) :
  Calls Try.prog 31 #[.pointer (some ⟨L.p,0,none⟩)] w fun e w'=>Below w.heap.size w w' ∧ ∃ v,e = .returned v ∧ OwnE w' w.heap.size v (reasL S.m st.need):=by
 generalize hP:(fun (e:Ending) (w':World)=>Below w.heap.size w w' ∧ ∃ v,e = .returned v ∧ OwnE w' w.heap.size v (reasL S.m st.need)) = Post
 have HP:=hide hP
 have H:=hide h
 have p5:w.cell? ⟨L.p,5,none⟩ = some (.slice (some ⟨L.gn,0,none⟩) S.m S.m):=h.blk.cell 5
 obtain ⟨B,hB0⟩:∃ B,w.heap.size = B:=⟨_,rfl⟩
 have HB0:=hide hB0
 clear hP h hB0
 go_enter Try.func31,Try.ntmps31
 go_wp2_with fail
 clear p5
 go_loopg [3,11] S.m (fun k v3 v11 wr=>∃ j:Nat,j + k = S.m ∧ v11 = .int .i64 (j:Int) ∧ Below B w wr ∧ Hid (OwnE wr B v3 (reasL j st.need)))
 case atStart=>exact ⟨0,by omega,rfl,Below.refl _ _,hide (OwnE.nil _ _)⟩
 case round=>
  obtain ⟨j,hjk,rfl,hB,HO⟩:=hrel
  rcases Nat.eq_zero_or_pos gk with h0 | h0
  ·subst h0
   obtain hj:j = S.m:=by omega
   subst hj
   go_wp2_with fail
   rw [← HP.out]
   exact ⟨by rw [HB0.out]; exact hB,_,rfl,by rw [HB0.out]; exact HO.out⟩
  ·have hj:j < S.m:=by omega
   have ej:(j:Int) < (S.m:Int):=by omega
   have n0:wr.cell? ⟨L.gn,j,none⟩ = some (.int .i64 (st.need j:Int)):=cellB (H.out.nd j hj) hB (Nat.le_of_eq HB0.out)
   rcases Nat.eq_zero_or_pos (st.need j) with hz | hz
   ·have HNX:Hid (reasL (j + 1) st.need = reasL j st.need):=hide (by rw [reasL_next,if_neg (by omega),List.append_nil])
    rw [hz] at n0
    clear hz
    go_wp2_with fail
    clear n0
    go_roundg (gk - 1)
    case measure=>omega
    case rel=>exact ⟨j + 1,by omega,by go_num,hB,hide (by rw [HNX.out]; exact HO.out)⟩
   ·have HNX:Hid (reasL (j + 1) st.need = reasL j st.need ++ [j]):=hide (by rw [reasL_next,if_pos hz])
    have e1:decide (0 < (st.need j:Int)) = true:=decide_eq_true (by omega)
    have e2:(0:Int) < (st.need j:Int):=by omega
    have hl:=reasL_len j st.need
    have hBs:=hB.size
    have hw0:=HB0.out
    obtain ⟨WA,hWA⟩:∃ WA,wr.alloc (.cells #[.int .i64 (j:Int)] 3) = WA:=⟨_,rfl⟩
    obtain ⟨gA,hgA⟩:∃ gA,wr.heap.size = gA:=⟨_,rfl⟩
    have bA:Blk WA gA 3 #[.int .i64 (j:Int)]:=by rw [← hWA,← hgA]; exact Blk.new _ _ _
    have hbA:Below B w WA:=by rw [← hWA]; exact hB.alloc (by omega) _
    have hOA:∃ v,OwnE WA B v (reasL j st.need) ∧ True:=⟨_,by rw [← hWA]; exact HO.out.alloc _,trivial⟩
    have HOA:Hid (OwnE WA B _ (reasL j st.need)):=hide (by rw [← hWA]; exact HO.out.alloc _)
    have hbase:B ≤ WA.heap.size:=by rw [← hw0]; rw [← hw0] at hbA; exact hbA.size
    have hc0:WA.cell? ((⟨gA,0,none⟩:Addr).add 0) = some (.int .i64 (j:Int)):=by rw [add_plain]; exact bA.cell 0
    have HWA:=hide hWA
    have HGA:=hide hgA
    have HC0:=hide hc0
    clear hWA hgA hOA hw0 hc0
    go_wp2_with (at_builtin; try (rw [HWA.out]); try (rw [HGA.out]); refine wpList_append_int rfl (.tmp 18) (.tmp 20) rfl B _ (reasL j st.need) rfl HOA.out ⟨gA,0,none⟩ j rfl HC0.out ?c1 hbase ?_)
    case c1=>omega
    intro v' w9 hown hb9
    have hB9:Below B w w9:=hbA.trans hb9
    have HO9:Hid (OwnE w9 B v' (reasL (j + 1) st.need)):=hide (by rw [HNX.out]; exact hown)
    clear hown n0
    go_wp2_with fail
    go_roundg (gk - 1)
    case measure=>omega
    case rel=>exact ⟨j + 1,by omega,by go_num,hB9,HO9⟩
end Go.Proofs.Ytphjffbldhhdiaa
