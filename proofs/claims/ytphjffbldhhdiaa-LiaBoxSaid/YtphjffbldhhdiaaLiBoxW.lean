/- The law LiaBox: its walk. -/
import Derived.Test.YtphjffbldhhdiaaLiBoxL
import Derived.Test.YtphjffbldhhdiaaLiNew
import Derived.Test.YtphjffbldhhdiaaLiSpeaks
namespace Go.Proofs.Ytphjffbldhhdiaa
open Go.RowKit

theorem rows_calm (rs:List LRow):∀ u ∈ rs.flatMap LRow.cells,NoU u:=fun u hu=>by
 obtain ⟨r,_,hr⟩:=List.mem_flatMap.1 hu
 exact lrow_calm _ _ _ _ _ _ _ u hr
theorem rows_one (rs:List LRow):∀ u ∈ rs.flatMap LRow.cells,u.oneCell' = true:=fun u hu=>by
 obtain ⟨r,_,hr⟩:=List.mem_flatMap.1 hu
 simp only [LRow.cells,List.mem_cons,List.not_mem_nil,or_false] at hr
 rcases hr with rfl | rfl | rfl <;> rfl
theorem wpList_append_rows {w:World} {ops:Array Oper} {rest:List Oper} {o:Oper} {a:Act} {Q:Exit → Act → World → Prop} (hgd:o.guard = none) (s x:Operand)
  (ho:o.op = .call { callee:=.builtin .append,args:=#[s,x],argTypes:=#[22,22] }) {N c c1:Nat} {a1:Option Addr} {rs:List LRow}
  (hs:a.eval s = .slice (some ⟨N,0,none⟩) 0 c) (hown:w.ownsRow N 48 3 (.slice (some ⟨N,0,none⟩) 0 c) 0 []) (hc:Calm w N) (hx:a.eval x = .slice a1 rs.length c1) (hf:Fit a1 rs.length c1) (hr:IRowsAt w a1 rs) (hl:rs.length ≤ 1000) (hN:N ≤ w.heap.size)
  (h:∀ g' c' w',w'.ownsRow N 48 3 (.slice (some ⟨g',0,none⟩) rs.length c') rs.length (rs.flatMap LRow.cells) → N ≤ g' → Calm w' g' → Below N w w' → wpList Try.prog ops Q rest (a.put o.dst (.slice (some ⟨g',0,none⟩) rs.length c')) w'):wpList Try.prog ops Q (o :: rest) a w:=by
 obtain ⟨i0,hi0,hz0,hz1,hz2⟩:=info_parts infoLRow
 cases a1 with
 | none=>
  obtain ⟨h1,h2⟩:=hf
  obtain rfl:c1 = 0:=h2 rfl
  have e:rs = []:=List.eq_nil_of_length_eq_zero (by omega)
  subst e
  exact wpList_append_own_none hgd s x 22 ho N 48 i0 3 Try.underlying22 hi0 _ 0 [] hs hown hx (h N c w hown (Nat.le_refl _) hc (Below.refl _ _))
 | some ad=>
  have hnews:∀ j u,(rs.flatMap LRow.cells)[j]? = some u → w.cell? (ad.add j) = some u:=fun j u hj=>by
   have hlt:j < rs.length * 3:=by rw [← LRow.cells_len rs]; exact (List.getElem?_eq_some_iff.1 hj).1
   obtain ⟨b,o',e,hrow⟩:=hr (by omega)
   obtain rfl:=Option.some.inj e
   obtain ⟨r0,-,-,m0,m1,-⟩:=hrow (j / 3) (by omega)
   have key:∀ d,d < 3 → w.cell? ⟨b,o' + (j / 3 * 3 + d),none⟩ = (rs[j / 3]).cells[d]?:=fun d hd=>by
    match d,hd with
    | 0,_=>rw [Nat.add_zero]; exact r0
    | 1,_=>rw [← Nat.add_assoc]; exact m0
    | 2,_=>rw [← Nat.add_assoc]; exact m1
   have h3:=LRow.cells_at rs (j / 3) (by omega) (j % 3) (Nat.mod_lt _ (by decide))
   have h4:=key (j % 3) (Nat.mod_lt _ (by decide))
   have ej:j / 3 * 3 + j % 3 = j:=by omega
   rw [ej] at h3 h4
   rw [add_plain,h4,← h3,hj]
  refine wpList_append_calm _ hgd s x 22 ho N 48 i0 (.agg #[.slice none 0 0,.bool false,.slice none 0 0]) 3 56 Try.underlying22 hi0 hz0 hz1 hz2 rfl (by decide) (.slice (some ⟨N,0,none⟩) 0 c) 0 [] hs hown ad rs.length c1 _ hx (LRow.cells_len rs) hnews (rows_one rs) (by unfold maxLen; omega) (by omega) hN (fun g e=>by obtain rfl:=Option.some.inj e; exact hc) (rows_calm rs) zeroLRow_calm (fun v' w' h2 h3 h4 h5=>?_)
  rw [Nat.zero_add,List.nil_append] at h2
  obtain ⟨g',c',rfl⟩:∃ g' c',v' = .slice (some ⟨g',0,none⟩) rs.length c':=by
   rcases h2.2 with ⟨e,_⟩ | ⟨g',cp,_,e,_⟩
   ·rw [e] at h4
    rcases h4 with h4 | h4 <;> cases h4
   ·exact ⟨g',cp,e⟩
  exact h g' c' w' h2 (h2.lt g' rfl).1 (h5 g' rfl) (below_of_grown h3 (fun g hg=>(World.ownsRow.lt hown g hg).1) hN)

def BxR (W:World) (N:Nat) (rs:List LRow) (n k g c:Nat) (bx:List LRow):Prop:=
 N ≤ g ∧ W.ownsRow N 48 3 (.slice (some ⟨g,0,none⟩) (rs.length + k) c) (rs.length + k) ((rs ++ bx).flatMap LRow.cells) ∧ BoxL W bx n k g ∧ Calm W g
theorem BxR.below {W W':World} {N n k g c:Nat} {rs bx:List LRow} (h:BxR W N rs n k g c bx) (hb:Below W.heap.size W W'):BxR W' N rs n k g c bx:=
 ⟨h.1,own_stays h.2.1 (fun q hq=>hb.block q (h.2.1.lt q hq).2),h.2.2.1.below hb (Nat.le_refl _),h.2.2.2.below hb (h.2.1.lt g rfl).2⟩
theorem bsign_at {W:World} {g s v:Nat} {t:TypeId} (hb:Blk W g t #[.int .i64 1,.int .i64 (-1)]) (hs:s < 2):W.cell? ⟨g,s,none⟩ = some (.int .i64 (if (2 * v + s) % 2 = 0 then 1 else -1)):=by
 match s,hs with
 | 0,_=>rw [if_pos (by omega)]; exact hb.cell 0
 | 1,_=>rw [if_neg (by omega)]; exact hb.cell 1
set_option maxRecDepth 100000 in
set_option maxHeartbeats 12800000 in
theorem lbox_walk (U:Int) (a1:Option Addr) (c1:Nat) (rs:List LRow) (w:World) (hf1:Fit a1 rs.length c1) (hw1:IRowsAt w a1 rs) :
  Calls Try.prog 7 #[.int .i64 U,.slice a1 rs.length c1] w fun e w'=>e = .returned (.bool true) ∧ Below w.heap.size w w':=by
 have HX:=hide hw1
 have HF1:=hide hf1
 clear hw1 hf1
 go_enter Try.func7,Try.ntmps7
 go_wp2_with fail
 refine (ispeaks_any w).mono ?_
 rintro e w1 ⟨rfl,hb1⟩
 have hx1:=HX.out.below hb1 (Nat.le_refl _)
 rcases Int.lt_or_le U 1 with hU1 | hU1
 ·have e1:decide (U < 1) = true:=decide_eq_true hU1
  go_wp2_with fail
  go_ret
  exact ⟨rfl,hb1⟩
 have e1:decide (U < 1) = false:=decide_eq_false (by omega)
 have e1':¬U < 1:=by omega
 rcases Int.lt_or_le 3 U with hU3 | hU3
 ·have e2:decide (3 < U) = true:=decide_eq_true hU3
  go_wp2_with fail
  go_ret
  exact ⟨rfl,hb1⟩
 have e2:decide (3 < U) = false:=decide_eq_false (by omega)
 have e2':¬3 < U:=by omega
 go_wp2_with fail
 refine (igreat_any U a1 c1 rs w1 hx1).mono ?_
 rintro e w2 ⟨hb2,g,rfl,hg⟩
 have sb2:=hb1.trans (hb2.mono hb1.size)
 cases g with
 | true=>
  clear hg
  go_wp2_with fail
  go_ret
  exact ⟨rfl,sb2⟩
 | false=>
  obtain ⟨h4,h10,hs⟩:=hg rfl
  have HS:=hide hs
  have hx2:=hx1.below hb2 (Nat.le_refl _)
  clear hg hs
  have hxl:∀ r ∈ rs,r.xs.length ≤ 1000000:=fun r hr=>Nat.le_trans (HS.out r hr).1 (by decide)
  have HXL:=hide hxl
  clear hxl
  go_wp2_with fail
  refine (irows_any a1 c1 rs w2 hx2 (by omega)).mono ?_
  rintro e w3 ⟨hb3,g3,k3,hg3,rfl,hx3⟩
  have sb3:=sb2.trans (hb3.mono sb2.size)
  have hR:Calls Try.prog 12 #[.int .i64 U,.slice (some ⟨g3,0,none⟩) rs.length k3] w3 fun e w'=>e = .returned (.bool (rightI U rs)) ∧ Below w3.heap.size w3 w':=iright_any U _ k3 rs w3 hx3 (by omega) HXL.out rfl
  have HRR:=hide hR
  clear hR
  go_wp2_with fail
  refine HRR.out.mono ?_
  rintro e w4 ⟨rfl,hb4⟩
  clear HRR
  have sb4:=sb3.trans (hb4.mono sb3.size)
  have hx4:=(hx2.below hb3 (Nat.le_refl _)).below hb4 (Nat.le_refl _)
  cases hr:rightI U rs with
  | false=>
   clear hr
   go_wp2_with fail
   go_ret
   exact ⟨rfl,sb4⟩
  | true=>
   obtain ⟨n,rfl⟩:∃ n:Nat,U = (n:Int):=⟨U.toNat,by omega⟩
   have hfair:=great_fair h4 h10 HS.out hr
   rw [show ((n:Nat):Int).toNat = n from by omega] at hfair
   have HFA:=hide hfair
   have HR:=hide hr
   have hn1:0 < n:=by omega
   have hn3:n ≤ 3:=by omega
   obtain ⟨W5,hW5⟩:∃ W,w4.alloc (.cells #[] 48) = W:=⟨_,rfl⟩
   obtain ⟨N,hNN⟩:∃ g,w4.heap.size = g:=⟨_,rfl⟩
   have s5:Below N w4 W5:=by rw [← hW5,← hNN]; exact (Below.refl _ _).alloc (Nat.le_refl _) _
   have ho5:W5.ownsRow N 48 3 (.slice (some ⟨N,0,none⟩) 0 0) 0 []:=by rw [← hW5,← hNN]; exact World.ownsRow_made w4 #[] 0 (Nat.le_refl _) (by unfold maxLen; omega) rfl
   have hc5:Calm W5 N:=by rw [← hW5,← hNN]; exact Calm.of (Blk.new w4 _ _) (fun u hu=>by simp at hu)
   have hN5:N ≤ W5.heap.size:=by rw [← hNN] at s5 ⊢; exact s5.size
   have hNe:w4.heap.size ≤ N:=Nat.le_of_eq hNN
   have hx5:=hx4.below s5 hNe
   have HO5:=hide ho5
   have HC5:=hide hc5
   have HX5:=hide hx5
   have HW5:=hide hW5
   have HNN:=hide hNN
   clear hW5 hNN ho5 hc5 hx5 hr hfair hx1 hx2 hx3 hb1 hb2 hb3 hb4 sb2 sb3
   go_upto_region 5 with (fail)
   go_wp2_with (at_builtin; rw [HW5.out,HNN.out]; refine wpList_append_rows (N:=N) (c:=0) (c1:=c1) (a1:=a1) (rs:=rs) rfl (.tmp 33) (.tmp 34) rfl rfl HO5.out HC5.out rfl HF1.out HX5.out (by omega) hN5 ?_)
   intro g6 c6 w6 hown6 hg6 hc6 hb6
   have hB6:Below N w4 w6:=s5.trans hb6
   have hN6:N ≤ w6.heap.size:=Nat.le_trans hN5 hb6.size
   have HB6:Hid (BxR w6 N rs n (2 * 0) g6 c6 []):=hide ⟨hg6,by rw [List.append_nil]; exact hown6,BoxL.nil,hc6⟩
   clear HO5 HC5 HX5 HW5 HNN hown6 hg6 hc6 hb6 s5 hN5
   go_wp2_with fail
   go_loopg [5,6] n (fun k v5 v6 wr=>∃ (v g c:Nat) (bx:List LRow),v + k = n ∧ v6 = .int .i64 (v:Int) ∧ v5 = .slice (some ⟨g,0,none⟩) (rs.length + 2 * v) c ∧ Below N w4 wr ∧ N ≤ wr.heap.size ∧ Hid (BxR wr N rs n (2 * v) g c bx))
   case atStart=>exact ⟨0,g6,c6,[],by omega,rfl,rfl,hB6,hN6,HB6⟩
   case round=>
    clear HB6 hB6 hN6
    obtain ⟨v,g,c,bx,hvk,rfl,rfl,hB,hBN,HBX⟩:=hrel
    have sbr:Below w.heap.size w wr:=sb4.trans (hB.mono (Nat.le_trans sb4.size hNe))
    rcases Nat.eq_zero_or_pos gk with h0 | h0
    ·subst h0
     obtain rfl:v = n:=by omega
     have hv':¬(v:Int) < (v:Int):=by omega
     obtain ⟨hg,hown,hbl,hcm⟩:=HBX.out
     have hlen:(rs ++ bx).length = rs.length + 2 * v:=by rw [List.length_append,hbl.len]
     have hM:MadeI wr N 48 (.slice (some ⟨g,0,none⟩) (rs ++ bx).length c) (rs ++ bx):=by unfold MadeI; rw [hlen]; exact hown
     have hfx:IRowsAt wr (some ⟨g,0,none⟩) (rs ++ bx):=hM.rows3 (hbl.all (rows_parts (hx4.below hB hNe)))
     have hfair2:=hbl.fair (rs:=rs) (by omega) hn1 HFA.out
     have hsv:=lsolve_at (U:=(v:Int)) (cap:=c) (fuel:=5000) wr hfx (by omega) (hbl.xl (by omega) HXL.out) (hbl.right HR.out) (by rw [show ((v:Nat):Int).toNat = v from by omega]; exact hfair2) (by omega)
     rw [show ((v:Nat):Int).toNat = v from by omega,hlen] at hsv
     have hnc:=near_any (a1:=a1) (c1:=c1) (rs:=rs) (n:=v) (N:=2)
     have HSV:=hide hsv
     have HBL:=hide hbl
     clear hsv hg hown hbl hcm hlen hM hfx hfair2 HBX hvk hnc
     go_wp2_with fail
     refine HSV.out.mono ?_
     rintro e w7 ⟨hb7,vd,us,va,vc,vs,ra,rc,rr,rfl,hO,hA⟩
     have hlaw:=HBL.out.law hn1 hn3 hO
     have HKI:=hide hO.kind
     have sb7:=sbr.trans (hb7.mono sbr.size)
     have hx7:=(hx4.below hB hNe).below hb7 (Nat.le_refl _)
     obtain ⟨W8,hW8⟩:∃ W,w7.alloc (.cells #[.int .i64 vd,.slice va vs.length vc,.slice ra rr.length rc,.int .i64 us] 28) = W:=⟨_,rfl⟩
     obtain ⟨g8,hg8⟩:∃ g,w7.heap.size = g:=⟨_,rfl⟩
     have b8:Blk W8 g8 28 #[.int .i64 vd,.slice va vs.length vc,.slice ra rr.length rc,.int .i64 us]:=by rw [← hW8,← hg8]; exact Blk.new _ _ _
     have s8:Below w7.heap.size w7 W8:=by rw [← hW8]; exact (Below.refl _ _).alloc (Nat.le_refl _) _
     have sb8:=sb7.trans (s8.mono sb7.size)
     have hx8:=hx7.below s8 (Nat.le_refl _)
     have HLW:=hide hlaw
     have HW8:=hide hW8
     have HG8:=hide hg8
     clear HSV HBL hO hA hlaw hW8 hg8 s8 sb7 hx7 hb7
     go_upto_region 17 with (fail)
     rw [HW8.out,HG8.out]
     clear HW8 HG8
     go_wp2_with fail
     refine (irows_any a1 c1 rs W8 hx8 (by omega)).mono ?_
     rintro e w9 ⟨hb9,g9,k9,hg9,rfl,hx9⟩
     have sb9:=sb8.trans (hb9.mono sb8.size)
     have b9:=b8.below hb9 b8.lt
     have HNC:Hid (Calls Try.prog 16 #[.int .i64 (v:Int),.slice (some ⟨g9,0,none⟩) rs.length k9,.int .i64 2] w9 fun e w'=>e = .returned (.bool (nearB rs 2 v [])) ∧ Below w9.heap.size w9 w'):=hide (near_any w9 hx9 (by omega) (by decide) HR.out (fun r hr=>(HS.out r hr).2) (by omega))
     go_wp2_with fail
     refine HNC.out.mono ?_
     rintro e w10 ⟨rfl,hb10⟩
     clear HNC
     have sb10:=sb9.trans (hb10.mono sb9.size)
     have b10:=b9.below hb10 b9.lt
     obtain ⟨z0,-,-,-,-⟩:=b10.c4
     obtain ⟨hl1,hl2⟩:=HLW.out
     generalize nearB rs 2 v [] = nb at hl1 hl2 ⊢
     rcases HKI.out with hv | hv | hv
     ·cases nb with
      | true=>have:=hl1.2 rfl; omega
      | false=>have:=hl2.2 rfl; omega
     ·obtain rfl:=hl1.1 hv
      subst hv
      clear hl1 hl2 HLW HKI
      go_wp2_with fail
      go_ret
      exact ⟨rfl,sb10⟩
     ·obtain rfl:=hl2.1 hv
      subst hv
      clear hl1 hl2 HLW HKI
      go_wp2_with fail
      go_ret
      exact ⟨rfl,sb10⟩
    ·have hv:v < n:=by omega
     have ev:(v:Int) < (n:Int):=by omega
     obtain ⟨W7,hW7⟩:∃ W,wr.alloc (.cells #[.int .i64 1,.int .i64 (-1)] 2) = W:=⟨_,rfl⟩
     obtain ⟨gs,hgs⟩:∃ g,wr.heap.size = g:=⟨_,rfl⟩
     have b7:Blk W7 gs 2 #[.int .i64 1,.int .i64 (-1)]:=by rw [← hW7,← hgs]; exact Blk.new _ _ _
     have s7:Below wr.heap.size wr W7:=by rw [← hW7]; exact (Below.refl _ _).alloc (Nat.le_refl _) _
     have hB7:Below N w4 W7:=hB.trans (s7.mono hBN)
     have hN7:N ≤ W7.heap.size:=Nat.le_trans hBN s7.size
     have HB7:Hid (BxR W7 N rs n (2 * v + 0) g c bx):=hide (HBX.out.below s7)
     have hgN:N ≤ gs:=by rw [← hgs]; exact hBN
     have hgne:g ≠ gs:=by have:=(HBX.out.2.1.lt g rfl).2; omega
     have HG7:Hid (Blk W7 gs 2 #[.int .i64 1,.int .i64 (-1)]):=hide b7
     have HW7:=hide hW7
     have HGS:=hide hgs
     clear hW7 hgs b7 s7 hB hBN HBX sbr
     go_wp2_with fail
     rw [HW7.out,HGS.out]
     clear HW7 HGS
     obtain ⟨K0,hK0⟩:∃ K0,K0 = gk:=⟨_,rfl⟩
     subst hK0
     go_loopg [5,43] 2 (fun k v5 v43 wr=>∃ (s g c:Nat) (bx:List LRow),s + k = 2 ∧ v43 = .int .i64 (s:Int) ∧ v5 = .slice (some ⟨g,0,none⟩) (rs.length + (2 * v + s)) c ∧ Below N w4 wr ∧ N ≤ wr.heap.size ∧ g ≠ gs ∧ Hid (Blk wr gs 2 #[.int .i64 1,.int .i64 (-1)]) ∧ Hid (BxR wr N rs n (2 * v + s) g c bx))
     case atStart=>exact ⟨0,g,c,bx,by omega,rfl,rfl,hB7,hN7,hgne,HG7,HB7⟩
     case round=>
      clear HB7 hB7 hN7 HG7 hgne g c bx
      obtain ⟨s,g,c,bx,hsk,rfl,rfl,hB,hBN,hgne,HGS,HBX⟩:=hrel
      rcases Nat.eq_zero_or_pos gk with h1 | h1
      ·subst h1
       obtain rfl:s = 2:=by omega
       have he:rs.length + (2 * v + 2) = rs.length + 2 * (v + 1):=by omega
       have HBY:Hid (BxR wr N rs n (2 * (v + 1)) g c bx):=hide HBX.out
       clear HBX hsk
       go_wp2_with fail
       go_roundg (K0 - 1)
       case measure=>omega
       case rel=>exact ⟨v + 1,g,c,bx,by omega,by go_num,rfl,hB,hBN,HBY⟩
      ·have hs2:s < 2:=by omega
       have es:(s:Int) < 2:=by omega
       have d0:=bsign_at (v:=v) HGS.out hs2
       obtain ⟨sg,hsg⟩:∃ sg:Int,(if (2 * v + s) % 2 = 0 then 1 else -1) = sg:=⟨_,rfl⟩
       rw [hsg] at d0
       have hsg1:-9223372036854775808 ≤ sg:=by rw [← hsg]; split <;> decide
       have hsg2:sg ≤ 9223372036854775807:=by rw [← hsg]; split <;> decide
       have HSG:=hide hsg
       clear hsg
       go_upto_region 12 with (fail)
       clear d0
       go_cut [9] from 47 to 50 (fun v9 wc=>∃ (gb g9:Nat) (on:Bool) (oa:Option Addr) (ol ok:Nat),v9 = .pointer (some ⟨g9,0,none⟩) ∧ wr.heap.size ≤ gb ∧ wr.heap.size ≤ g9 ∧ gb ≠ g9 ∧ Below wr.heap.size wr wc ∧ Hid (MadeB wc gb 38 zeroI n) ∧ Blk wc g9 48 #[.slice (some ⟨gb,0,none⟩) n n,.bool on,.slice oa ol ok] ∧ Hid (IntV wc (.agg #[.bool on,.slice oa ol ok]) 2))
       case first=>
        refine wp_region_held_drew (S:=fun w'=>Below wr.heap.size wr w') (by kernel_rfl) ((Below.refl _ _).drew) (fun hS=>?_)
        refine tkH 0 ⟨some 47,.move (.tmp 0),3,"law.go:168",#[],none⟩ hS ?_
        try simp only [Act.put,sB,sC,sD]
        refine wpAnyH_ready (rs:=[1,2,4]) (by kernel_rfl) (by simp) ?_
        refine AllReadyH.cons (o:=⟨some 48,.makeSlice 25 (.tmp 47) (.tmp 47),25,"law.go:168",#[eD 0,eD 0],none⟩) rfl (fun K hK=>?_) (AllReadyH.cons (o:=⟨some 49,.call { callee:=.value (.func 21),args:=#[.const (.int .i64 2)],argTypes:=#[2] },38,"law.go:168",#[],none⟩) rfl (fun K hK=>?_) (AllReadyH.cons (o:=⟨some 9,.alloc 48,0,"law.go:168",#[],none⟩) rfl (fun K hK=>?_) AllReadyH.nil))
        ·have hgU:wr.heap.size ≤ wr.heap.size:=hS.size
         refine step_make_b (n:=n) (z:=zeroI) rfl (.tmp 47) (.tmp 47) rfl Try.underlying25 infoInt rfl (by decide) (by decide) zeroI_calm (by rfl) (by rfl) (by omega) ?_
         intro wK hMk hb1
         replace hMk:MadeB wK wr.heap.size 38 zeroI n:=hMk
         refine hK.out _ _ (kp0 hS hb1) (fun hS=>?_)
         clear hK K
         clear hb1
         try simp only [Act.put,sB,sC,sD]
         refine wpAnyH_ready (rs:=[2,4]) (by kernel_rfl) (by simp) ?_
         refine AllReadyH.cons (o:=⟨some 49,.call { callee:=.value (.func 21),args:=#[.const (.int .i64 2)],argTypes:=#[2] },38,"law.go:168",#[],none⟩) rfl (fun K hK=>?_) (AllReadyH.cons (o:=⟨some 9,.alloc 48,0,"law.go:168",#[],none⟩) rfl (fun K hK=>?_) AllReadyH.nil)
         ·go_simp
          (go_at_call 21; (with_reducible refine (Of_any 2 _ (by decide) (by decide)).mono ?_); rintro e wC ⟨rC,rfl,hC,hb1⟩)
          obtain ⟨on,oa,ol,ok,rfl⟩:=hC.form
          go_wp2_with fail
          refine hK.out _ _ (kp0 hS hb1) (fun hS=>?_)
          clear hK K
          replace hMk:=hMk.below hb1
          clear hb1
          try simp only [Act.put,sB,sC,sD]
          refine tkH 3 ⟨some 50,.build 48 #[(0,.tmp 48),(1,.tmp 49)],48,"law.go:168",#[eD 1,eD 2],none⟩ hS ?_
          try simp only [Act.put,sB,sC,sD]
          refine wpAnyH_ready (rs:=[4]) (by kernel_rfl) (by simp) ?_
          refine AllReadyH.cons (o:=⟨some 9,.alloc 48,0,"law.go:168",#[],none⟩) rfl (fun K hK=>?_) AllReadyH.nil
          have hlt:=hMk.1.lt
          have hg9:wr.heap.size ≤ wC.heap.size:=hS.size
          obtain ⟨wA,hwA⟩:∃ wA,(wC.alloc (.cells #[.slice none 0 0,.bool false,.slice none 0 0] 48)) = wA:=⟨_,rfl⟩
          have b9:Blk wA wC.heap.size 48 #[.slice none 0 0,.bool false,.slice none 0 0]:=by rw [← hwA]; exact Blk.new wC _ _
          have hb1:Below wC.heap.size wC wA:=by rw [← hwA]; exact (Below.refl wC.heap.size wC).alloc (Nat.le_refl _) _
          have HWA:=hide hwA
          clear hwA
          go_simp
          try (rw [HWA.out])
          refine hK.out _ _ (kp0 hS hb1) (fun hS=>?_)
          clear hK K HWA
          replace hMk:=hMk.below hb1
          replace hC:=hC.below hb1 (Nat.le_refl _)
          clear hb1
          try simp only [Act.put,sB,sC,sD]
          refine wpAnyH_ready (rs:=[5]) (by kernel_rfl) (by simp) ?_
          refine AllReadyH.cons (o:=⟨none,.store 48 (.tmp 9) (.tmp 50),0,"law.go:168",#[eD 4,eD 3,eC 2,eP 0,eP 1,eP 2,eP 3,eP 4],none⟩) rfl (fun K hK=>?_) AllReadyH.nil
          have hneq:wr.heap.size ≠ wC.heap.size:=(Nat.ne_of_lt hlt)
          have hCB:CB wA wC.heap.size 48 3:=⟨_,b9,rfl,fun u hu=>lrow_calm none none 0 0 0 0 false u (by simpa using hu)⟩
          have hvc:=lrow_calm (some ⟨wr.heap.size,0,none⟩) oa n n ol ok on
          obtain ⟨WN,hWN⟩:∃ WN,putL wC.heap.size wA 0 [.slice (some ⟨wr.heap.size,0,none⟩) n n,.bool on,.slice oa ol ok] = WN:=⟨_,rfl⟩
          have hMN:Hid (MadeB WN wr.heap.size 38 zeroI n):=hide (by rw [← hWN]; exact hMk.putL_far hneq)
          have hQN:Hid (IntV WN (.agg #[.bool on,.slice oa ol ok]) 2):=hide (by rw [← hWN]; exact hC.putL hCB hvc)
          have hBN2:Blk WN wC.heap.size 48 #[.slice (some ⟨wr.heap.size,0,none⟩) n n,.bool on,.slice oa ol ok]:=by rw [← hWN]; exact ((b9.set_ 0 _).set_ 1 _).set_ 2 _
          have hBW:Below wr.heap.size wr WN:=by rw [← hWN]; exact below_putL hS hg9
          have z0:wA.cell? ⟨wC.heap.size,0,none⟩ = some (.slice none 0 0):=b9.cell 0
          have z1:wA.cell? ⟨wC.heap.size,1,none⟩ = some (.bool false):=b9.cell 1
          have z2:wA.cell? ⟨wC.heap.size,2,none⟩ = some (.slice none 0 0):=b9.cell 2
          have f0:=b9.frozen 0
          have f1:=b9.frozen 1
          have f2:=b9.frozen 2
          simp only [putL] at hWN
          have HWN:=hide hWN
          clear hWN
          go_simp
          refine hK.out _ _ (by rw [HWN.out]; exact hBW) (fun hS=>?_)
          clear hK K hS
          try simp only [Act.put,sB,sC,sD]
          refine wpAnyH_done (by kernel_rfl) ?_ _
          rw [HWN.out]
          clear HWN z0 z1 z2 f0 f1 f2
          go_wp2_with fail
          go_meet
          exact ⟨_,_,on,oa,ol,ok,rfl,hgU,hg9,hneq,hBW,hMN,hBN2,hQN⟩
         ·have hlt:=hMk.1.lt
          have hg9:wr.heap.size ≤ wK.heap.size:=hS.size
          obtain ⟨wA,hwA⟩:∃ wA,(wK.alloc (.cells #[.slice none 0 0,.bool false,.slice none 0 0] 48)) = wA:=⟨_,rfl⟩
          have b9:Blk wA wK.heap.size 48 #[.slice none 0 0,.bool false,.slice none 0 0]:=by rw [← hwA]; exact Blk.new wK _ _
          have hb1:Below wK.heap.size wK wA:=by rw [← hwA]; exact (Below.refl wK.heap.size wK).alloc (Nat.le_refl _) _
          have HWA:=hide hwA
          clear hwA
          go_simp
          try (rw [HWA.out])
          refine hK.out _ _ (kp0 hS hb1) (fun hS=>?_)
          clear hK K HWA
          replace hMk:=hMk.below hb1
          clear hb1
          try simp only [Act.put,sB,sC,sD]
          refine wpAnyH_ready (rs:=[2]) (by kernel_rfl) (by simp) ?_
          refine AllReadyH.cons (o:=⟨some 49,.call { callee:=.value (.func 21),args:=#[.const (.int .i64 2)],argTypes:=#[2] },38,"law.go:168",#[],none⟩) rfl (fun K hK=>?_) AllReadyH.nil
          go_simp
          (go_at_call 21; (with_reducible refine (Of_any 2 _ (by decide) (by decide)).mono ?_); rintro e wC ⟨rC,rfl,hC,hb1⟩)
          obtain ⟨on,oa,ol,ok,rfl⟩:=hC.form
          go_wp2_with fail
          refine hK.out _ _ (kp0 hS hb1) (fun hS=>?_)
          clear hK K
          replace hMk:=hMk.below hb1
          replace b9:=b9.below hb1 b9.lt
          clear hb1
          try simp only [Act.put,sB,sC,sD]
          refine tkH 3 ⟨some 50,.build 48 #[(0,.tmp 48),(1,.tmp 49)],48,"law.go:168",#[eD 1,eD 2],none⟩ hS ?_
          try simp only [Act.put,sB,sC,sD]
          refine wpAnyH_ready (rs:=[5]) (by kernel_rfl) (by simp) ?_
          refine AllReadyH.cons (o:=⟨none,.store 48 (.tmp 9) (.tmp 50),0,"law.go:168",#[eD 4,eD 3,eC 2,eP 0,eP 1,eP 2,eP 3,eP 4],none⟩) rfl (fun K hK=>?_) AllReadyH.nil
          have hneq:wr.heap.size ≠ wK.heap.size:=(Nat.ne_of_lt hlt)
          have hCB:CB wC wK.heap.size 48 3:=⟨_,b9,rfl,fun u hu=>lrow_calm none none 0 0 0 0 false u (by simpa using hu)⟩
          have hvc:=lrow_calm (some ⟨wr.heap.size,0,none⟩) oa n n ol ok on
          obtain ⟨WN,hWN⟩:∃ WN,putL wK.heap.size wC 0 [.slice (some ⟨wr.heap.size,0,none⟩) n n,.bool on,.slice oa ol ok] = WN:=⟨_,rfl⟩
          have hMN:Hid (MadeB WN wr.heap.size 38 zeroI n):=hide (by rw [← hWN]; exact hMk.putL_far hneq)
          have hQN:Hid (IntV WN (.agg #[.bool on,.slice oa ol ok]) 2):=hide (by rw [← hWN]; exact hC.putL hCB hvc)
          have hBN2:Blk WN wK.heap.size 48 #[.slice (some ⟨wr.heap.size,0,none⟩) n n,.bool on,.slice oa ol ok]:=by rw [← hWN]; exact ((b9.set_ 0 _).set_ 1 _).set_ 2 _
          have hBW:Below wr.heap.size wr WN:=by rw [← hWN]; exact below_putL hS hg9
          have z0:wC.cell? ⟨wK.heap.size,0,none⟩ = some (.slice none 0 0):=b9.cell 0
          have z1:wC.cell? ⟨wK.heap.size,1,none⟩ = some (.bool false):=b9.cell 1
          have z2:wC.cell? ⟨wK.heap.size,2,none⟩ = some (.slice none 0 0):=b9.cell 2
          have f0:=b9.frozen 0
          have f1:=b9.frozen 1
          have f2:=b9.frozen 2
          simp only [putL] at hWN
          have HWN:=hide hWN
          clear hWN
          go_simp
          refine hK.out _ _ (by rw [HWN.out]; exact hBW) (fun hS=>?_)
          clear hK K hS
          try simp only [Act.put,sB,sC,sD]
          refine wpAnyH_done (by kernel_rfl) ?_ _
          rw [HWN.out]
          clear HWN z0 z1 z2 f0 f1 f2
          go_wp2_with fail
          go_meet
          exact ⟨_,_,on,oa,ol,ok,rfl,hgU,hg9,hneq,hBW,hMN,hBN2,hQN⟩
        ·go_simp
         (go_at_call 21; (with_reducible refine (Of_any 2 _ (by decide) (by decide)).mono ?_); rintro e wC ⟨rC,rfl,hC,hb1⟩)
         obtain ⟨on,oa,ol,ok,rfl⟩:=hC.form
         go_wp2_with fail
         refine hK.out _ _ (kp0 hS hb1) (fun hS=>?_)
         clear hK K
         clear hb1
         try simp only [Act.put,sB,sC,sD]
         refine wpAnyH_ready (rs:=[1,4]) (by kernel_rfl) (by simp) ?_
         refine AllReadyH.cons (o:=⟨some 48,.makeSlice 25 (.tmp 47) (.tmp 47),25,"law.go:168",#[eD 0,eD 0],none⟩) rfl (fun K hK=>?_) (AllReadyH.cons (o:=⟨some 9,.alloc 48,0,"law.go:168",#[],none⟩) rfl (fun K hK=>?_) AllReadyH.nil)
         ·have hgU:wr.heap.size ≤ wC.heap.size:=hS.size
          refine step_make_b (n:=n) (z:=zeroI) rfl (.tmp 47) (.tmp 47) rfl Try.underlying25 infoInt rfl (by decide) (by decide) zeroI_calm (by rfl) (by rfl) (by omega) ?_
          intro wK hMk hb1
          replace hMk:MadeB wK wC.heap.size 38 zeroI n:=hMk
          refine hK.out _ _ (kp0 hS hb1) (fun hS=>?_)
          clear hK K
          replace hC:=hC.below hb1 (Nat.le_refl _)
          clear hb1
          try simp only [Act.put,sB,sC,sD]
          refine tkH 3 ⟨some 50,.build 48 #[(0,.tmp 48),(1,.tmp 49)],48,"law.go:168",#[eD 1,eD 2],none⟩ hS ?_
          try simp only [Act.put,sB,sC,sD]
          refine wpAnyH_ready (rs:=[4]) (by kernel_rfl) (by simp) ?_
          refine AllReadyH.cons (o:=⟨some 9,.alloc 48,0,"law.go:168",#[],none⟩) rfl (fun K hK=>?_) AllReadyH.nil
          have hlt:=hMk.1.lt
          have hg9:wr.heap.size ≤ wK.heap.size:=hS.size
          obtain ⟨wA,hwA⟩:∃ wA,(wK.alloc (.cells #[.slice none 0 0,.bool false,.slice none 0 0] 48)) = wA:=⟨_,rfl⟩
          have b9:Blk wA wK.heap.size 48 #[.slice none 0 0,.bool false,.slice none 0 0]:=by rw [← hwA]; exact Blk.new wK _ _
          have hb1:Below wK.heap.size wK wA:=by rw [← hwA]; exact (Below.refl wK.heap.size wK).alloc (Nat.le_refl _) _
          have HWA:=hide hwA
          clear hwA
          go_simp
          try (rw [HWA.out])
          refine hK.out _ _ (kp0 hS hb1) (fun hS=>?_)
          clear hK K HWA
          replace hC:=hC.below hb1 (Nat.le_refl _)
          replace hMk:=hMk.below hb1
          clear hb1
          try simp only [Act.put,sB,sC,sD]
          refine wpAnyH_ready (rs:=[5]) (by kernel_rfl) (by simp) ?_
          refine AllReadyH.cons (o:=⟨none,.store 48 (.tmp 9) (.tmp 50),0,"law.go:168",#[eD 4,eD 3,eC 2,eP 0,eP 1,eP 2,eP 3,eP 4],none⟩) rfl (fun K hK=>?_) AllReadyH.nil
          have hneq:wC.heap.size ≠ wK.heap.size:=(Nat.ne_of_lt hlt)
          have hCB:CB wA wK.heap.size 48 3:=⟨_,b9,rfl,fun u hu=>lrow_calm none none 0 0 0 0 false u (by simpa using hu)⟩
          have hvc:=lrow_calm (some ⟨wC.heap.size,0,none⟩) oa n n ol ok on
          obtain ⟨WN,hWN⟩:∃ WN,putL wK.heap.size wA 0 [.slice (some ⟨wC.heap.size,0,none⟩) n n,.bool on,.slice oa ol ok] = WN:=⟨_,rfl⟩
          have hMN:Hid (MadeB WN wC.heap.size 38 zeroI n):=hide (by rw [← hWN]; exact hMk.putL_far hneq)
          have hQN:Hid (IntV WN (.agg #[.bool on,.slice oa ol ok]) 2):=hide (by rw [← hWN]; exact hC.putL hCB hvc)
          have hBN2:Blk WN wK.heap.size 48 #[.slice (some ⟨wC.heap.size,0,none⟩) n n,.bool on,.slice oa ol ok]:=by rw [← hWN]; exact ((b9.set_ 0 _).set_ 1 _).set_ 2 _
          have hBW:Below wr.heap.size wr WN:=by rw [← hWN]; exact below_putL hS hg9
          have z0:wA.cell? ⟨wK.heap.size,0,none⟩ = some (.slice none 0 0):=b9.cell 0
          have z1:wA.cell? ⟨wK.heap.size,1,none⟩ = some (.bool false):=b9.cell 1
          have z2:wA.cell? ⟨wK.heap.size,2,none⟩ = some (.slice none 0 0):=b9.cell 2
          have f0:=b9.frozen 0
          have f1:=b9.frozen 1
          have f2:=b9.frozen 2
          simp only [putL] at hWN
          have HWN:=hide hWN
          clear hWN
          go_simp
          refine hK.out _ _ (by rw [HWN.out]; exact hBW) (fun hS=>?_)
          clear hK K hS
          try simp only [Act.put,sB,sC,sD]
          refine wpAnyH_done (by kernel_rfl) ?_ _
          rw [HWN.out]
          clear HWN z0 z1 z2 f0 f1 f2
          go_wp2_with fail
          go_meet
          exact ⟨_,_,on,oa,ol,ok,rfl,hgU,hg9,hneq,hBW,hMN,hBN2,hQN⟩
         ·have hg9:wr.heap.size ≤ wC.heap.size:=hS.size
          obtain ⟨wA,hwA⟩:∃ wA,(wC.alloc (.cells #[.slice none 0 0,.bool false,.slice none 0 0] 48)) = wA:=⟨_,rfl⟩
          have b9:Blk wA wC.heap.size 48 #[.slice none 0 0,.bool false,.slice none 0 0]:=by rw [← hwA]; exact Blk.new wC _ _
          have hb1:Below wC.heap.size wC wA:=by rw [← hwA]; exact (Below.refl wC.heap.size wC).alloc (Nat.le_refl _) _
          have HWA:=hide hwA
          clear hwA
          go_simp
          try (rw [HWA.out])
          refine hK.out _ _ (kp0 hS hb1) (fun hS=>?_)
          clear hK K HWA
          replace hC:=hC.below hb1 (Nat.le_refl _)
          clear hb1
          try simp only [Act.put,sB,sC,sD]
          refine wpAnyH_ready (rs:=[1]) (by kernel_rfl) (by simp) ?_
          refine AllReadyH.cons (o:=⟨some 48,.makeSlice 25 (.tmp 47) (.tmp 47),25,"law.go:168",#[eD 0,eD 0],none⟩) rfl (fun K hK=>?_) AllReadyH.nil
          have hlt:=b9.lt
          have hgU:wr.heap.size ≤ wA.heap.size:=hS.size
          refine step_make_b (n:=n) (z:=zeroI) rfl (.tmp 47) (.tmp 47) rfl Try.underlying25 infoInt rfl (by decide) (by decide) zeroI_calm (by rfl) (by rfl) (by omega) ?_
          intro wK hMk hb1
          replace hMk:MadeB wK wA.heap.size 38 zeroI n:=hMk
          refine hK.out _ _ (kp0 hS hb1) (fun hS=>?_)
          clear hK K
          replace hC:=hC.below hb1 (Nat.le_refl _)
          replace b9:=b9.below hb1 b9.lt
          clear hb1
          try simp only [Act.put,sB,sC,sD]
          refine tkH 3 ⟨some 50,.build 48 #[(0,.tmp 48),(1,.tmp 49)],48,"law.go:168",#[eD 1,eD 2],none⟩ hS ?_
          try simp only [Act.put,sB,sC,sD]
          refine wpAnyH_ready (rs:=[5]) (by kernel_rfl) (by simp) ?_
          refine AllReadyH.cons (o:=⟨none,.store 48 (.tmp 9) (.tmp 50),0,"law.go:168",#[eD 4,eD 3,eC 2,eP 0,eP 1,eP 2,eP 3,eP 4],none⟩) rfl (fun K hK=>?_) AllReadyH.nil
          have hneq:wA.heap.size ≠ wC.heap.size:=(Nat.ne_of_gt hlt)
          have hCB:CB wK wC.heap.size 48 3:=⟨_,b9,rfl,fun u hu=>lrow_calm none none 0 0 0 0 false u (by simpa using hu)⟩
          have hvc:=lrow_calm (some ⟨wA.heap.size,0,none⟩) oa n n ol ok on
          obtain ⟨WN,hWN⟩:∃ WN,putL wC.heap.size wK 0 [.slice (some ⟨wA.heap.size,0,none⟩) n n,.bool on,.slice oa ol ok] = WN:=⟨_,rfl⟩
          have hMN:Hid (MadeB WN wA.heap.size 38 zeroI n):=hide (by rw [← hWN]; exact hMk.putL_far hneq)
          have hQN:Hid (IntV WN (.agg #[.bool on,.slice oa ol ok]) 2):=hide (by rw [← hWN]; exact hC.putL hCB hvc)
          have hBN2:Blk WN wC.heap.size 48 #[.slice (some ⟨wA.heap.size,0,none⟩) n n,.bool on,.slice oa ol ok]:=by rw [← hWN]; exact ((b9.set_ 0 _).set_ 1 _).set_ 2 _
          have hBW:Below wr.heap.size wr WN:=by rw [← hWN]; exact below_putL hS hg9
          have z0:wK.cell? ⟨wC.heap.size,0,none⟩ = some (.slice none 0 0):=b9.cell 0
          have z1:wK.cell? ⟨wC.heap.size,1,none⟩ = some (.bool false):=b9.cell 1
          have z2:wK.cell? ⟨wC.heap.size,2,none⟩ = some (.slice none 0 0):=b9.cell 2
          have f0:=b9.frozen 0
          have f1:=b9.frozen 1
          have f2:=b9.frozen 2
          simp only [putL] at hWN
          have HWN:=hide hWN
          clear hWN
          go_simp
          refine hK.out _ _ (by rw [HWN.out]; exact hBW) (fun hS=>?_)
          clear hK K hS
          try simp only [Act.put,sB,sC,sD]
          refine wpAnyH_done (by kernel_rfl) ?_ _
          rw [HWN.out]
          clear HWN z0 z1 z2 f0 f1 f2
          go_wp2_with fail
          go_meet
          exact ⟨_,_,on,oa,ol,ok,rfl,hgU,hg9,hneq,hBW,hMN,hBN2,hQN⟩
        ·have hg9:wr.heap.size ≤ wr.heap.size:=hS.size
         obtain ⟨wA,hwA⟩:∃ wA,(wr.alloc (.cells #[.slice none 0 0,.bool false,.slice none 0 0] 48)).drew = wA:=⟨_,rfl⟩
         have b9:Blk wA wr.heap.size 48 #[.slice none 0 0,.bool false,.slice none 0 0]:=by rw [← hwA]; exact Blk.new wr.drew _ _
         have hb1:Below wr.drew.heap.size wr.drew wA:=by rw [← hwA]; exact (Below.refl wr.drew.heap.size wr.drew).alloc (Nat.le_refl _) _
         have HWA:=hide hwA
         clear hwA
         go_simp
         try (rw [HWA.out])
         refine hK.out _ _ (kp0 hS hb1) (fun hS=>?_)
         clear hK K HWA
         clear hb1
         try simp only [Act.put,sB,sC,sD]
         refine wpAnyH_ready (rs:=[1,2]) (by kernel_rfl) (by simp) ?_
         refine AllReadyH.cons (o:=⟨some 48,.makeSlice 25 (.tmp 47) (.tmp 47),25,"law.go:168",#[eD 0,eD 0],none⟩) rfl (fun K hK=>?_) (AllReadyH.cons (o:=⟨some 49,.call { callee:=.value (.func 21),args:=#[.const (.int .i64 2)],argTypes:=#[2] },38,"law.go:168",#[],none⟩) rfl (fun K hK=>?_) AllReadyH.nil)
         ·have hlt:=b9.lt
          have hgU:wr.heap.size ≤ wA.heap.size:=hS.size
          refine step_make_b (n:=n) (z:=zeroI) rfl (.tmp 47) (.tmp 47) rfl Try.underlying25 infoInt rfl (by decide) (by decide) zeroI_calm (by rfl) (by rfl) (by omega) ?_
          intro wK hMk hb1
          replace hMk:MadeB wK wA.heap.size 38 zeroI n:=hMk
          refine hK.out _ _ (kp0 hS hb1) (fun hS=>?_)
          clear hK K
          replace b9:=b9.below hb1 b9.lt
          clear hb1
          try simp only [Act.put,sB,sC,sD]
          refine wpAnyH_ready (rs:=[2]) (by kernel_rfl) (by simp) ?_
          refine AllReadyH.cons (o:=⟨some 49,.call { callee:=.value (.func 21),args:=#[.const (.int .i64 2)],argTypes:=#[2] },38,"law.go:168",#[],none⟩) rfl (fun K hK=>?_) AllReadyH.nil
          go_simp
          (go_at_call 21; (with_reducible refine (Of_any 2 _ (by decide) (by decide)).mono ?_); rintro e wC ⟨rC,rfl,hC,hb1⟩)
          obtain ⟨on,oa,ol,ok,rfl⟩:=hC.form
          go_wp2_with fail
          refine hK.out _ _ (kp0 hS hb1) (fun hS=>?_)
          clear hK K
          replace b9:=b9.below hb1 b9.lt
          replace hMk:=hMk.below hb1
          clear hb1
          try simp only [Act.put,sB,sC,sD]
          refine tkH 3 ⟨some 50,.build 48 #[(0,.tmp 48),(1,.tmp 49)],48,"law.go:168",#[eD 1,eD 2],none⟩ hS ?_
          try simp only [Act.put,sB,sC,sD]
          refine wpAnyH_ready (rs:=[5]) (by kernel_rfl) (by simp) ?_
          refine AllReadyH.cons (o:=⟨none,.store 48 (.tmp 9) (.tmp 50),0,"law.go:168",#[eD 4,eD 3,eC 2,eP 0,eP 1,eP 2,eP 3,eP 4],none⟩) rfl (fun K hK=>?_) AllReadyH.nil
          have hneq:wA.heap.size ≠ wr.heap.size:=(Nat.ne_of_gt hlt)
          have hCB:CB wC wr.heap.size 48 3:=⟨_,b9,rfl,fun u hu=>lrow_calm none none 0 0 0 0 false u (by simpa using hu)⟩
          have hvc:=lrow_calm (some ⟨wA.heap.size,0,none⟩) oa n n ol ok on
          obtain ⟨WN,hWN⟩:∃ WN,putL wr.heap.size wC 0 [.slice (some ⟨wA.heap.size,0,none⟩) n n,.bool on,.slice oa ol ok] = WN:=⟨_,rfl⟩
          have hMN:Hid (MadeB WN wA.heap.size 38 zeroI n):=hide (by rw [← hWN]; exact hMk.putL_far hneq)
          have hQN:Hid (IntV WN (.agg #[.bool on,.slice oa ol ok]) 2):=hide (by rw [← hWN]; exact hC.putL hCB hvc)
          have hBN2:Blk WN wr.heap.size 48 #[.slice (some ⟨wA.heap.size,0,none⟩) n n,.bool on,.slice oa ol ok]:=by rw [← hWN]; exact ((b9.set_ 0 _).set_ 1 _).set_ 2 _
          have hBW:Below wr.heap.size wr WN:=by rw [← hWN]; exact below_putL hS hg9
          have z0:wC.cell? ⟨wr.heap.size,0,none⟩ = some (.slice none 0 0):=b9.cell 0
          have z1:wC.cell? ⟨wr.heap.size,1,none⟩ = some (.bool false):=b9.cell 1
          have z2:wC.cell? ⟨wr.heap.size,2,none⟩ = some (.slice none 0 0):=b9.cell 2
          have f0:=b9.frozen 0
          have f1:=b9.frozen 1
          have f2:=b9.frozen 2
          simp only [putL] at hWN
          have HWN:=hide hWN
          clear hWN
          go_simp
          refine hK.out _ _ (by rw [HWN.out]; exact hBW) (fun hS=>?_)
          clear hK K hS
          try simp only [Act.put,sB,sC,sD]
          refine wpAnyH_done (by kernel_rfl) ?_ _
          rw [HWN.out]
          clear HWN z0 z1 z2 f0 f1 f2
          go_wp2_with fail
          go_meet
          exact ⟨_,_,on,oa,ol,ok,rfl,hgU,hg9,hneq,hBW,hMN,hBN2,hQN⟩
         ·go_simp
          (go_at_call 21; (with_reducible refine (Of_any 2 _ (by decide) (by decide)).mono ?_); rintro e wC ⟨rC,rfl,hC,hb1⟩)
          obtain ⟨on,oa,ol,ok,rfl⟩:=hC.form
          go_wp2_with fail
          refine hK.out _ _ (kp0 hS hb1) (fun hS=>?_)
          clear hK K
          replace b9:=b9.below hb1 b9.lt
          clear hb1
          try simp only [Act.put,sB,sC,sD]
          refine wpAnyH_ready (rs:=[1]) (by kernel_rfl) (by simp) ?_
          refine AllReadyH.cons (o:=⟨some 48,.makeSlice 25 (.tmp 47) (.tmp 47),25,"law.go:168",#[eD 0,eD 0],none⟩) rfl (fun K hK=>?_) AllReadyH.nil
          have hlt:=b9.lt
          have hgU:wr.heap.size ≤ wC.heap.size:=hS.size
          refine step_make_b (n:=n) (z:=zeroI) rfl (.tmp 47) (.tmp 47) rfl Try.underlying25 infoInt rfl (by decide) (by decide) zeroI_calm (by rfl) (by rfl) (by omega) ?_
          intro wK hMk hb1
          replace hMk:MadeB wK wC.heap.size 38 zeroI n:=hMk
          refine hK.out _ _ (kp0 hS hb1) (fun hS=>?_)
          clear hK K
          replace b9:=b9.below hb1 b9.lt
          replace hC:=hC.below hb1 (Nat.le_refl _)
          clear hb1
          try simp only [Act.put,sB,sC,sD]
          refine tkH 3 ⟨some 50,.build 48 #[(0,.tmp 48),(1,.tmp 49)],48,"law.go:168",#[eD 1,eD 2],none⟩ hS ?_
          try simp only [Act.put,sB,sC,sD]
          refine wpAnyH_ready (rs:=[5]) (by kernel_rfl) (by simp) ?_
          refine AllReadyH.cons (o:=⟨none,.store 48 (.tmp 9) (.tmp 50),0,"law.go:168",#[eD 4,eD 3,eC 2,eP 0,eP 1,eP 2,eP 3,eP 4],none⟩) rfl (fun K hK=>?_) AllReadyH.nil
          have hneq:wC.heap.size ≠ wr.heap.size:=(Nat.ne_of_gt hlt)
          have hCB:CB wK wr.heap.size 48 3:=⟨_,b9,rfl,fun u hu=>lrow_calm none none 0 0 0 0 false u (by simpa using hu)⟩
          have hvc:=lrow_calm (some ⟨wC.heap.size,0,none⟩) oa n n ol ok on
          obtain ⟨WN,hWN⟩:∃ WN,putL wr.heap.size wK 0 [.slice (some ⟨wC.heap.size,0,none⟩) n n,.bool on,.slice oa ol ok] = WN:=⟨_,rfl⟩
          have hMN:Hid (MadeB WN wC.heap.size 38 zeroI n):=hide (by rw [← hWN]; exact hMk.putL_far hneq)
          have hQN:Hid (IntV WN (.agg #[.bool on,.slice oa ol ok]) 2):=hide (by rw [← hWN]; exact hC.putL hCB hvc)
          have hBN2:Blk WN wr.heap.size 48 #[.slice (some ⟨wC.heap.size,0,none⟩) n n,.bool on,.slice oa ol ok]:=by rw [← hWN]; exact ((b9.set_ 0 _).set_ 1 _).set_ 2 _
          have hBW:Below wr.heap.size wr WN:=by rw [← hWN]; exact below_putL hS hg9
          have z0:wK.cell? ⟨wr.heap.size,0,none⟩ = some (.slice none 0 0):=b9.cell 0
          have z1:wK.cell? ⟨wr.heap.size,1,none⟩ = some (.bool false):=b9.cell 1
          have z2:wK.cell? ⟨wr.heap.size,2,none⟩ = some (.slice none 0 0):=b9.cell 2
          have f0:=b9.frozen 0
          have f1:=b9.frozen 1
          have f2:=b9.frozen 2
          simp only [putL] at hWN
          have HWN:=hide hWN
          clear hWN
          go_simp
          refine hK.out _ _ (by rw [HWN.out]; exact hBW) (fun hS=>?_)
          clear hK K hS
          try simp only [Act.put,sB,sC,sD]
          refine wpAnyH_done (by kernel_rfl) ?_ _
          rw [HWN.out]
          clear HWN z0 z1 z2 f0 f1 f2
          go_wp2_with fail
          go_meet
          exact ⟨_,_,on,oa,ol,ok,rfl,hgU,hg9,hneq,hBW,hMN,hBN2,hQN⟩
       case rest=>
        obtain ⟨gb,g9,on,oa,ol,ok,rfl,hgb,hg9,hne,hBw,HMk,b9,HOV⟩:=hcut
        have hov:=HOV.out
        have HMB:=HMk.out
        obtain ⟨x0,-,-,-⟩:=b9.c3
        have B9:=hide b9
        have hgbl:gb < wc.heap.size:=HMB.1.lt
        have hglt:g < wr.heap.size:=(HBX.out.2.1.lt g rfl).2
        have HMBc:=hide HMB
        have HOVc:=hide hov
        clear HMk HMB b9 HOV hov
        go_upto_region 13 with (fail)
        refine wp_region_till (S:=fun w'=>w'.cell? ⟨g9,0,none⟩ = some (.slice (some ⟨gb,0,none⟩) n n) ∧ Below wc.heap.size wc w') (fun i=>decide (i < 5)) (by kernel_rfl) (⟨x0,(Below.refl _ _).drew⟩) (fun hS=>?_)
        refine tkT 0 ⟨some 51,.fieldAddr 48 (.tmp 9) 0,0,"law.go:169",#[],none⟩ hS ?_
        try simp only [Act.put,sB,sC,sD]
        refine tkT 1 ⟨some 52,.load 25 (.tmp 51),25,"law.go:169",#[eD 0],none⟩ hS ?_
        try simp only [Act.put,sB,sC,sD]
        refine tkT 2 ⟨some 53,.move (.tmp 6),3,"law.go:169",#[],none⟩ hS ?_
        try simp only [Act.put,sB,sC,sD]
        refine tkT 3 ⟨some 54,.move (.tmp 8),2,"law.go:169",#[],none⟩ hS ?_
        try simp only [Act.put,sB,sC,sD]
        refine Till_ready (rs:=[4]) (by kernel_rfl) (by kernel_rfl) (by simp) ?_
        refine AllReadyT.cons (o:=⟨some 55,.call { callee:=.value (.func 21),args:=#[.tmp 54],argTypes:=#[2] },38,"law.go:169",#[eD 3],none⟩) rfl (fun K hK=>?_) AllReadyT.nil
        go_simp
        (go_at_call 21; (with_reducible refine (Of_any sg _ hsg1 hsg2).mono ?_); rintro e wN ⟨rN,rfl,hN,hb1⟩)
        obtain ⟨un,ua,ul,uk,rfl⟩:=hN.form
        go_wp2_with fail
        refine hK.out _ _ ((kp1 hS hb1)) (fun hS=>?_)
        clear hK K hb1
        try simp only [Act.put,sB,sC,sD]
        refine Till_turn (by kernel_rfl) ?_
        refine tkH 5 ⟨some 56,.indexAddr 25 (.tmp 52) (.tmp 53),0,"law.go:169",#[eD 1,eD 2,eP 0,eP 1,eP 2,eP 3,eP 4],none⟩ trivial ?_
        try simp only [Act.put,sB,sC,sD]
        refine wpAnyH_ready (rs:=[6]) (by kernel_rfl) (by simp) ?_
        refine AllReadyH.cons (o:=⟨none,.store 38 (.tmp 56) (.tmp 55),0,"law.go:169",#[eD 5,eD 4,eC 4,eP 0,eP 1,eP 2,eP 3,eP 4],none⟩) rfl (fun K hK=>?_) AllReadyH.nil
        have hBN2:=hS.2
        have hCN:CB wN gb 38 (n * 2):=CB.below (t:=38) (n:=n * 2) HMBc.out.1 hBN2 hgbl
        have hI0:∀ q,q < n → IAt wN gb (q * 2) 0:=fun q hq=>(HMBc.out.int hq).below hBN2 (Nat.le_refl _)
        obtain ⟨_,_,_,_,q0,q1,-⟩:=id (hI0 v hv)
        have f0:=hCN.frozen (v * 2)
        have f1:=hCN.frozen (v * 2 + 1)
        obtain ⟨W5,hW5⟩:∃ W5,putL gb wN (v * 2) [.bool un,.slice ua ul uk] = W5:=⟨_,rfl⟩
        have hpc:=int_calm un ua ul uk
        have HI5:Hid (∀ q,q < n → IAt W5 gb (q * 2) (boxZ (2 * v + s) q)):=hide (fun q hq=>by
         rw [← hW5]
         unfold boxZ
         by_cases he:q = v
         ·subst he
          rw [if_pos (by omega),HSG.out]
          exact IAt.put_at hCN (by omega) hN
         ·rw [if_neg (by omega)]
          exact (hI0 q hq).putL hCN hpc (.inr (by simp only [List.length_cons,List.length_nil]; omega)))
        have HV5:Hid (IntV W5 (.agg #[.bool on,.slice oa ol ok]) 2):=hide (by rw [← hW5]; exact (HOVc.out.below hBN2 (Nat.le_refl _)).putL hCN hpc)
        have HB5:Hid (Blk W5 g9 48 #[.slice (some ⟨gb,0,none⟩) n n,.bool on,.slice oa ol ok]):=hide (by rw [← hW5]; exact ((B9.out.below hBN2 B9.out.lt).far (fun e=>hne e.symm) _).far (fun e=>hne e.symm) _)
        have hBr5:Below wr.heap.size wr W5:=by rw [← hW5]; exact below_putL (hBw.trans (hBN2.mono hBw.size)) hgb
        have hgb5:gb < W5.heap.size:=by rw [← hW5,size_putL]; exact Nat.lt_of_lt_of_le hgbl hBN2.size
        simp only [putL] at hW5
        have HW5:=hide hW5
        clear hW5 hCN hI0 hpc hBN2
        go_simp
        refine hK.out _ _ trivial (fun _=>?_)
        clear hK K q0 q1 f0 f1
        try simp only [Act.put,sB,sC,sD]
        refine wpAnyH_done (by kernel_rfl) ?_ _
        rw [HW5.out]
        clear HW5 hS HMBc HOVc B9 x0
        obtain ⟨R,rfl,rfl,rfl,rfl,hRo,hRk,hRz,hRl⟩:=IntV.raw HV5.out (N:=1) (by decide) (by decide)
        have hBX5:=HBX.out.below hBr5
        obtain ⟨xs,hxs,hBL5⟩:=hBX5.2.2.1.snoc (b:=gb) (by omega) hgb5 HI5.out hRk hRz hRl hRo
        obtain ⟨k0,k1,k2,-⟩:=HB5.out.c3
        obtain ⟨W6,hW6⟩:∃ W,W5.alloc (.cells #[.slice (some ⟨gb,0,none⟩) n n,.bool R.neg,.slice R.at_ R.ds.length R.cap] 48) = W:=⟨_,rfl⟩
        have s6:Below W5.heap.size W5 W6:=by rw [← hW6]; exact (Below.refl _ _).alloc (Nat.le_refl _) _
        have hNS:∀ j u,[Value.slice (some ⟨gb,0,none⟩) n n,.bool R.neg,.slice R.at_ R.ds.length R.cap][j]? = some u → W6.cell? ((⟨W5.heap.size,0,none⟩:Addr).add j) = some u:=by rw [← hW6]; exact news_three _ _ _ _ _
        have hBX6:=hBX5.below s6
        have hBr6:Below wr.heap.size wr W6:=hBr5.trans (s6.mono hBr5.size)
        have HB6:Hid (Below N w4 W6):=hide (hB.trans (hBr6.mono hBN))
        have hN6:N ≤ W6.heap.size:=Nat.le_trans hBN hBr6.size
        have HOW:=hide hBX6.2.1
        have HCA:Hid (∀ q,(Value.slice (some ⟨g,0,none⟩) (rs.length + (2 * v + s)) c).ownBlock = some q → Calm W6 q):=hide (fun q e=>by obtain rfl:=Option.some.inj e; exact hBX6.2.2.2)
        have HBL:=hide (hBL5.below s6 (Nat.le_refl _))
        have HNU:=hide (lrow_calm (some ⟨gb,0,none⟩) R.at_ n n R.ds.length R.cap R.neg)
        have HNS:=hide hNS
        have HW6:=hide hW6
        have HGS6:=hide (HGS.out.below hBr6 HGS.out.lt)
        have hgs6:gs < W6.heap.size:=Nat.lt_of_lt_of_le HGS.out.lt hBr6.size
        have hgN2:=HBX.out.1
        have hfl:(rs ++ (bx ++ [(⟨some ⟨gb,0,none⟩,n,xs,R⟩:LRow)])).flatMap LRow.cells = (rs ++ bx).flatMap LRow.cells ++ [.slice (some ⟨gb,0,none⟩) n n,.bool R.neg,.slice R.at_ R.ds.length R.cap]:=by
         rw [← List.append_assoc,List.flatMap_append]
         simp [LRow.cells,hxs]
        have HFL:=hide hfl
        obtain ⟨i0,hi0,hz0,hz1,hz2⟩:=info_parts infoLRow
        clear hRo hRk hRz hRl hBX5 hBL5 s6 hNS hBX6 hW6 hfl HB5 HV5 HI5 HBX HGS hBr5 hxs hBw hB
        go_upto_region 14 with (fail)
        go_wp2_with (at_builtin; (try rw [HW6.out]); refine wpList_append_calm _ rfl (.tmp 57) (.tmp 59) 22 rfl N 48 i0 (.agg #[.slice none 0 0,.bool false,.slice none 0 0]) 3 56 Try.underlying22 hi0 hz0 hz1 hz2 rfl (by decide) (.slice (some ⟨g,0,none⟩) (rs.length + (2 * v + s)) c) (rs.length + (2 * v + s)) ((rs ++ bx).flatMap LRow.cells) rfl HOW.out ⟨W5.heap.size,0,none⟩ 1 1 [.slice (some ⟨gb,0,none⟩) n n,.bool R.neg,.slice R.at_ R.ds.length R.cap] rfl rfl HNS.out (by simp [Value.oneCell']) ?c4 ?c5 hN6 HCA.out HNU.out zeroLRow_calm ?_)
        case c4=>unfold maxLen; omega
        case c5=>omega
        intro v9 w7 hown hgrow hat hcalm
        have hB7:Below N w4 w7:=HB6.out.grown hgrow (by omega) (fun k hk=>by obtain rfl:=Option.some.inj hk; exact hgN2)
        have hN7:N ≤ w7.heap.size:=Nat.le_trans hN6 hgrow.size
        obtain ⟨g',cp,rfl⟩:∃ g' cp,v9 = .slice (some ⟨g',0,none⟩) (rs.length + (2 * v + s) + 1) cp:=by
         rcases hown.2 with ⟨_,h⟩ | ⟨g',cp,_,h,_⟩
         ·omega
         ·exact ⟨g',cp,h⟩
        have hat2:g' = g ∨ g' = W6.heap.size:=hat.imp Option.some.inj Option.some.inj
        have hgne7:g' ≠ gs:=by rcases hat2 with e | e <;> omega
        have HGS7:=hide (HGS6.out.grown hgrow (fun e=>hgne (Option.some.inj e).symm))
        have HBX7:Hid (BxR w7 N rs n (2 * v + (s + 1)) g' cp (bx ++ [⟨some ⟨gb,0,none⟩,n,xs,R⟩])):=hide ⟨(hown.lt g' rfl).1,by rw [HFL.out,List.flatMap_append,List.append_assoc]; exact hown,HBL.out.grown hgrow (HCA.out g rfl) hat2,hcalm g' rfl⟩
        clear hown hgrow hat hcalm HOW HCA HBL HNS HNU HW6 HFL HB6 HGS6 k0 k1 k2 hat2
        go_wp2_with fail
        go_roundg (gk - 1)
        case measure=>omega
        case rel=>exact ⟨s + 1,g',cp,_,by omega,by go_num,rfl,hB7,hN7,hgne7,HGS7,HBX7⟩
end Go.Proofs.Ytphjffbldhhdiaa
