/- The law LiaSolves: its walk. -/
import Derived.Test.YtphjffbldhhdiaaLiFitLaw
import Derived.Test.YtphjffbldhhdiaaLiSpeaks
namespace Go.Proofs.Ytphjffbldhhdiaa
open Go.RowKit

theorem LOut.used {S:ISys} {f vd us:Int} {vs:List Int} {rw:List Nat} (h:LOut S f vd us vs rw):0 ≤ us ∧ us ≤ max f 0:=by
 obtain ⟨t,j,hr,h⟩:=h
 rcases h with ⟨z,hf,hj,_,e,_⟩ | ⟨nd,hf,hj,_,e,_⟩ | ⟨hj,_,e,_⟩ <;> omega
theorem LOut.zero {S:ISys} {f vd us:Int} {vs:List Int} {rw:List Nat} (h:LOut S f vd us vs rw) (hv:vd = 0):us = max f 0 ∧ vs = [] ∧ rw = []:=by
 obtain ⟨t,j,hr,h⟩:=h
 rcases h with ⟨z,hf,hj,e,_⟩ | ⟨nd,hf,hj,e,_⟩ | ⟨hj,_,e,e2,e3⟩
 ·omega
 ·omega
 ·exact ⟨by omega,e2,e3⟩
theorem LOut.sm2 {S:ISys} {f vd us:Int} {vs:List Int} {rw:List Nat} (h:LOut S f vd us vs rw) (hS:LFair S) (hf:f ≤ 10000):∀ v ∈ vs,len v ≤ 100000000:=by
 obtain ⟨t,j,hr,h⟩:=h
 rcases h with ⟨z,⟨x,hx,hd,rfl⟩,hj,e,_,rfl,e3⟩ | ⟨nd,hf,hj,e,_,rfl,_⟩ | ⟨hj,e,_,rfl,_⟩
 ·intro v hv
  obtain ⟨c,hc,rfl⟩:=List.mem_map.1 hv
  obtain ⟨h1,h2⟩:=hr.fine hS (by omega)
  have h3:=(h1.vals h2 hx (List.mem_range.1 hc)).1
  have h4:=szB4 hS.n
  exact Nat.le_trans (floor_len (x c)) (by omega)
 ·intro v hv; cases hv
 ·intro v hv; cases hv
theorem LOut.rises {S:ISys} {f vd us:Int} {vs:List Int} {rw:List Nat} (h:LOut S f vd us vs rw) (hv:vd = 2):vs = [] ∧ (∀ i ∈ rw,i < S.m) ∧ ∀ i (h1:i + 1 < rw.length),rw[i] < rw[i + 1]:=by
 obtain ⟨t,j,hr,h⟩:=h
 rcases h with ⟨z,hf,hj,e,_⟩ | ⟨nd,hf,hj,e,_,e2,rfl⟩ | ⟨hj,e,_⟩
 ·omega
 ·refine ⟨e2,fun i hi=>(mem_reasL.1 hi).1,fun i h1=>?_⟩
  have hp:(reasL S.m nd).Pairwise (· < ·):=List.Pairwise.filter _ List.pairwise_lt_range
  exact List.pairwise_iff_getElem.1 hp i (i + 1) (by omega) h1 (by omega)
 ·omega
set_option maxRecDepth 100000 in
set_option maxHeartbeats 12800000 in
theorem lsolves_walk (U:Int) (a1:Option Addr) (c1:Nat) (rs:List LRow) (fu:Int) (w:World) (_hf1:Fit a1 rs.length c1) (hw1:IRowsAt w a1 rs) :
  Calls Try.prog 3 #[.int .i64 U,.slice a1 rs.length c1,.int .i64 fu] w fun e w'=>e = .returned (.bool true) ∧ Below w.heap.size w w':=by
 have HX:=hide hw1
 clear hw1
 go_enter Try.func3,Try.ntmps3
 go_wp2_with fail
 refine (ispeaks_any w).mono ?_
 rintro e w1 ⟨rfl,hb1⟩
 have hx1:=HX.out.below hb1 (Nat.le_refl _)
 go_wp2_with fail
 refine (igreat_any U a1 c1 rs w1 hx1).mono ?_
 rintro e w2 ⟨hb2,g,rfl,hg⟩
 have sb2:=hb1.trans (hb2.mono hb1.size)
 cases g with
 | true=>
  clear hg
  go_wp2_with fail
  go_ret
  exact ⟨rfl,sb2⟩
 | false=>
  obtain ⟨h4,h10,hs⟩:=hg rfl
  have HS:=hide hs
  have hx2:=hx1.below hb2 (Nat.le_refl _)
  clear hg hs
  rcases Int.lt_or_le 200 fu with hfu | hfu
  ·have e1:decide (200 < fu) = true:=decide_eq_true hfu
   go_wp2_with fail
   go_ret
   exact ⟨rfl,sb2⟩
  have e1:decide (200 < fu) = false:=decide_eq_false (by omega)
  have e1':¬200 < fu:=by omega
  have hxl:∀ r ∈ rs,r.xs.length ≤ 1000000:=fun r hr=>Nat.le_trans (HS.out r hr).1 (by decide)
  cases hr:rightI U rs with
  | false=>
   have hsv:Calls Try.prog 10 #[.int .i64 U,.slice a1 rs.length c1,.int .i64 fu] w2 (LSolvePost w2 U rs fu):=lsolve_any U a1 c1 rs fu w2 hx2 (by omega) hxl (fun h=>by rw [hr] at h; cases h) (by omega)
   have HSV:=hide hsv
   have HR:=hide hr
   have HXL:=hide hxl
   clear hsv hr hxl
   go_wp2_with fail
   refine HSV.out.mono ?_
   rintro e w3 ⟨hb3,⟨_,rfl⟩ | ⟨hr,_⟩⟩
   rotate_left
   ·rw [HR.out] at hr; cases hr
   have sb3:=sb2.trans (hb3.mono sb2.size)
   have hx3:=hx2.below hb3 (Nat.le_refl _)
   unfold zeroA
   obtain ⟨W4,hW4⟩:∃ W,w3.alloc (.cells #[.int .i64 0,.slice none 0 0,.slice none 0 0,.int .i64 0] 28) = W:=⟨_,rfl⟩
   obtain ⟨g7,hg7⟩:∃ g,w3.heap.size = g:=⟨_,rfl⟩
   have b7:Blk W4 g7 28 #[.int .i64 0,.slice none 0 0,.slice none 0 0,.int .i64 0]:=by rw [← hW4,← hg7]; exact Blk.new _ _ _
   have s4:Below w3.heap.size w3 W4:=by rw [← hW4]; exact (Below.refl _ _).alloc (Nat.le_refl _) _
   have sb4:=sb3.trans (s4.mono sb3.size)
   have hx4:=hx3.below s4 (Nat.le_refl _)
   have HW4:=hide hW4
   have HG7:=hide hg7
   clear HSV hW4 hg7 s4 sb3 hx3 hb3 hx2 hx1
   go_upto_region 6 with (fail)
   rw [HW4.out,HG7.out]
   clear HW4 HG7
   go_wp2_with fail
   refine (irows_any a1 c1 rs W4 hx4 (by omega)).mono ?_
   rintro e w5 ⟨hb5,g3,k3,hg3,rfl,hx5⟩
   have sb5:=sb4.trans (hb5.mono sb4.size)
   have b5:=b7.below hb5 b7.lt
   have hR:Calls Try.prog 12 #[.int .i64 U,.slice (some ⟨g3,0,none⟩) rs.length k3] w5 fun e w'=>e = .returned (.bool false) ∧ Below w5.heap.size w5 w':=iright_any U _ k3 rs w5 hx5 (by omega) HXL.out HR.out
   have HRR:=hide hR
   clear hR
   go_wp2_with fail
   refine HRR.out.mono ?_
   rintro e w6 ⟨rfl,hb6⟩
   have sb6:=sb5.trans (hb6.mono sb5.size)
   have b6:=b5.below hb6 b5.lt
   obtain ⟨z0,z1,z2,z3,-⟩:=b6.c4
   clear HRR hx5 hx4
   go_wp2_with fail
   go_ret
   exact ⟨rfl,sb6⟩
  | true=>
   have hfair:=great_fair h4 h10 HS.out hr
   have hU0:0 ≤ U:=by
    unfold rightI at hr
    simp only [Bool.and_eq_true,decide_eq_true_eq] at hr
    exact hr.1
   obtain ⟨n,rfl⟩:∃ n:Nat,U = (n:Int):=⟨U.toNat,by omega⟩
   have hto:((n:Nat):Int).toNat = n:=by omega
   have hsv:=lsolve_at (cap:=c1) (fuel:=fu) w2 hx2 (by omega) hxl hr hfair (by omega)
   rw [hto] at hsv hfair
   have HSV:=hide hsv
   have HR:=hide hr
   have HXL:=hide hxl
   have HFA:=hide hfair
   clear hsv hr hxl hfair hto
   go_wp2_with fail
   refine HSV.out.mono ?_
   rintro e w3 ⟨hb3,vd,us,va,vc,vs,ra,rc,rr,rfl,hO,hA⟩
   have HO:=hide hO
   have sb3:=sb2.trans (hb3.mono sb2.size)
   have hx3:=hx2.below hb3 (Nat.le_refl _)
   obtain ⟨W4,hW4⟩:∃ W,w3.alloc (.cells #[.int .i64 vd,.slice va vs.length vc,.slice ra rr.length rc,.int .i64 us] 28) = W:=⟨_,rfl⟩
   obtain ⟨g7,hg7⟩:∃ g,w3.heap.size = g:=⟨_,rfl⟩
   have b7:Blk W4 g7 28 #[.int .i64 vd,.slice va vs.length vc,.slice ra rr.length rc,.int .i64 us]:=by rw [← hW4,← hg7]; exact Blk.new _ _ _
   have s4:Below w3.heap.size w3 W4:=by rw [← hW4]; exact (Below.refl _ _).alloc (Nat.le_refl _) _
   have sb4:=sb3.trans (s4.mono sb3.size)
   have hx4:=hx3.below s4 (Nat.le_refl _)
   have hA4:=hA.below s4 (Nat.le_refl _)
   have HW4:=hide hW4
   have HG7:=hide hg7
   clear HSV hW4 hg7 s4 sb3 hx3 hb3 hx2 hx1 hO hA
   go_upto_region 6 with (fail)
   rw [HW4.out,HG7.out]
   clear HW4 HG7
   go_wp2_with fail
   refine (irows_any a1 c1 rs W4 hx4 (by omega)).mono ?_
   rintro e w5 ⟨hb5,g3,k3,hg3,rfl,hx5⟩
   have sb5:=sb4.trans (hb5.mono sb4.size)
   have b5:=b7.below hb5 b7.lt
   have hA5:=hA4.below hb5 (Nat.le_refl _)
   have hR:Calls Try.prog 12 #[.int .i64 (n:Int),.slice (some ⟨g3,0,none⟩) rs.length k3] w5 fun e w'=>e = .returned (.bool true) ∧ Below w5.heap.size w5 w':=iright_any (n:Int) _ k3 rs w5 hx5 (by omega) HXL.out HR.out
   have HRR:=hide hR
   clear hR
   go_wp2_with fail
   refine HRR.out.mono ?_
   rintro e w6 ⟨rfl,hb6⟩
   have sb6:=sb5.trans (hb6.mono sb5.size)
   have b6:=b5.below hb6 b5.lt
   have hx6:=hx5.below hb6 (Nat.le_refl _)
   have hA6:=hA5.below hb6 (Nat.le_refl _)
   obtain ⟨z0,z1,z2,z3,-⟩:=b6.c4
   have hus:=HO.out.used
   have eu1:decide (us < 0) = false:=decide_eq_false (by omega)
   have eu1':¬us < 0:=by omega
   have eu2:decide (max fu 0 < us) = false:=decide_eq_false (by omega)
   have eu2':¬max fu 0 < us:=by omega
   have hvl:vs.length ≤ 4:=Nat.le_trans HO.out.vals_le HFA.out.n
   have hrl:rr.length ≤ 10:=Nat.le_trans HO.out.rows_le h10
   clear HRR hx5 hx4 hA4 hA5 hb5 hb6 sb5 b5 b7 sb4
   rcases HO.out.kind with hv | hv | hv
   ·obtain ⟨hz1,hz2,hz3⟩:=HO.out.zero hv
    subst hv hz2 hz3
    have e7:(us == max fu 0) = true:=by simp [hz1]
    clear HO hus
    go_wp2_with fail
    go_ret
    exact ⟨rfl,sb6⟩
   ·subst hv
    obtain ⟨hsl,hsr,hsf⟩:=sat_fits HO.out rfl
    subst hsr
    have HSL:=hide hsl
    clear hsl
    have hsm:=HO.out.sm2 HFA.out (by omega)
    have HSM:=hide hsm
    have HSF:=hide hsf
    have HA6:=hide hA6
    have HX6:=hide hx6
    obtain ⟨W7,hW7⟩:∃ W,w6.alloc (.cells #[] 41) = W:=⟨_,rfl⟩
    obtain ⟨B,hBB⟩:∃ g,w6.heap.size = g:=⟨_,rfl⟩
    have s7:Below w6.heap.size w6 W7:=by rw [← hW7]; exact (Below.refl _ _).alloc (Nat.le_refl _) _
    have ho7:W7.ownsRow B 41 2 (.slice (some ⟨B,0,none⟩) 0 0) 0 []:=by rw [← hW7,← hBB]; exact World.ownsRow_made w6 #[] 0 (Nat.le_refl _) (by unfold maxLen; omega) rfl
    have hc7:CalmA W7 B:=by rw [← hW7,← hBB]; exact CalmA.of (Blk.new w6 _ _) (fun u hu=>by simp at hu)
    have HN0:Hid (NRow W7 B (.slice (some ⟨B,0,none⟩) 0 0) (vs.take 0)):=hide ⟨[],ho7,(fun g e=>by obtain rfl:=Option.some.inj e; exact hc7),fun i h=>absurd h (Nat.not_lt_zero _)⟩
    have hBe:B ≤ w6.heap.size:=Nat.le_of_eq hBB.symm
    have hBe2':w6.heap.size ≤ B:=Nat.le_of_eq hBB
    have HW7:=hide hW7
    have HBB:=hide hBB
    clear hW7 hBB ho7 hc7 hsm hsf hA6 hx6 HO hus
    go_upto_region 14 with (fail)
    rw [HW7.out,HBB.out]
    clear HW7 HBB
    have Z2:=hide z2
    have Z1:=hide z1
    replace z1:=cellB z1 s7 (Nat.le_refl _)
    clear z2
    go_wp2_with fail
    go_loopg [10,84] vs.length (fun k v10 v84 wr=>∃ (i:Nat) (a:Option Addr) (c:Nat),i + k = vs.length ∧ v84 = .int .i64 (i:Int) ∧ v10 = .slice a i c ∧ Below w6.heap.size w6 wr ∧ Hid (NRow wr B (.slice a i c) (vs.take i)))
    case atStart=>exact ⟨0,_,_,by omega,rfl,rfl,s7,HN0⟩
    case round=>
     clear HN0 s7
     obtain ⟨i,av,cv,hik,rfl,rfl,hB,HN⟩:=hrel
     have sbr:=sb6.trans (hB.mono sb6.size)
     rcases Nat.eq_zero_or_pos gk with h0 | h0
     ·subst h0
      obtain rfl:i = vs.length:=by omega
      have hNf:=HN.out
      rw [List.take_length] at hNf
      obtain ⟨a',c',he,hff,hll⟩:=hNf.list
      injection he with he1 _ he2
      subst he1 he2
      have hxw:=HX6.out.below hB (Nat.le_refl _)
      have hfc:Calls Try.prog 15 #[.slice (some ⟨g3,0,none⟩) rs.length k3,.slice av vs.length cv] wr fun e w'=>e = .returned (.bool true) ∧ Below wr.heap.size wr w':=ifits_any wr hxw hll (by rw [HSL.out]; exact HR.out) (fun r hr=>(HS.out r hr).2) (by omega) HSM.out (by omega) HSF.out
      have HFC:=hide hfc
      have y2:=cellB Z2.out hB (Nat.le_refl _)
      have en:((vs.length:Int) == (n:Int)) = true:=by simp [HSL.out]
      clear hfc hxw hll hff hNf HN hik
      go_wp2_with fail
      refine HFC.out.mono ?_
      rintro e w9 ⟨rfl,hb9⟩
      clear HFC
      go_wp2_with fail
      go_ret
      exact ⟨rfl,sbr.trans (hb9.mono sbr.size)⟩
     ·have hi:i < vs.length:=by omega
      have ei:(i:Int) < (vs.length:Int):=by omega
      obtain ⟨gx,ox,rfl,hvx⟩:=HA6.out.vals (by omega)
      obtain ⟨xn,xa,xl,xk,x0,x1,hxz⟩:=(hvx i hi).below hB (Nat.le_refl _)
      have hlz:=HSM.out _ (List.getElem_mem hi)
      obtain ⟨z,hz⟩:∃ z,vs[i] = z:=⟨_,rfl⟩
      rw [hz] at hxz hlz
      have htk:vs.take (i + 1) = vs.take i ++ [z]:=by rw [List.take_succ_eq_append_getElem hi,hz]
      have hlt:(vs.take i).length = i:=by rw [List.length_take]; omega
      obtain ⟨R,rfl,rfl,rfl,rfl,hRo,hRf,hRz,hRl⟩:=hxz.raw (N:=100000000) hlz (by decide)
      obtain ⟨W8,hW8⟩:∃ W,wr.alloc (.cells #[.bool R.neg,.slice R.at_ R.ds.length R.cap] 38) = W:=⟨_,rfl⟩
      obtain ⟨g12,hg12⟩:∃ g,wr.heap.size = g:=⟨_,rfl⟩
      have b12:Blk W8 g12 38 #[.bool R.neg,.slice R.at_ R.ds.length R.cap]:=by rw [← hW8,← hg12]; exact Blk.new _ _ _
      have s8:Below wr.heap.size wr W8:=by rw [← hW8]; exact (Below.refl _ _).alloc (Nat.le_refl _) _
      have hB8:Below w6.heap.size w6 W8:=hB.trans (s8.mono hB.size)
      have hRo8:=hRo.below s8 (Nat.le_refl _)
      have HN8:Hid (NRow W8 B (.slice av i cv) (vs.take i)):=hide (HN.out.below s8)
      have HTK:=hide htk
      have HLT:=hide hlt
      have HW8:=hide hW8
      have HG12:=hide hg12
      have HRZ:=hide hRz
      clear hW8 hg12 s8 hRo hxz hvx htk hlt hz HN hB hRz
      go_upto_region 17 with (fail)
      rw [HW8.out,HG12.out]
      clear HW8 HG12 x0 x1
      obtain ⟨k0,k1,-⟩:=b12.c2
      go_wp2_with fail
      refine (ri_at R hRo8 hRf).mono ?_
      rintro e w9 ⟨rfl,hb9⟩
      have hB9:Below w6.heap.size w6 w9:=hB8.trans (hb9.mono hB8.size)
      have hI9:IntV w9 (.agg #[.bool R.neg,.slice R.at_ R.ds.length R.cap]) z:=by rw [← HRZ.out]; exact (hRo8.below hb9 (Nat.le_refl _)).intV hRf
      have HN9:Hid (NRow w9 B (.slice av i cv) (vs.take i)):=hide (HN8.out.below hb9)
      replace k0:=cellB k0 hb9 (Nat.le_refl _)
      replace k1:=cellB k1 hb9 (Nat.le_refl _)
      clear HN8 hb9 hRo8 hB8
      go_wp2_with fail
      refine (ROf_any w9 hI9 (by omega)).mono ?_
      rintro e w10 ⟨rO,rfl,hOv,hb10⟩
      obtain ⟨on,oa,ol,ok,rfl⟩:=hOv.parts
      obtain ⟨W11,hW11⟩:∃ W,w10.alloc (.cells #[.bool on,.slice oa ol ok] 41) = W:=⟨_,rfl⟩
      have s11:Below w10.heap.size w10 W11:=by rw [← hW11]; exact (Below.refl _ _).alloc (Nat.le_refl _) _
      have hNS:∀ j u,[Value.bool on,.slice oa ol ok][j]? = some u → W11.cell? ((⟨w10.heap.size,0,none⟩:Addr).add j) = some u:=by rw [← hW11]; exact news_two _ _ _ _
      have HN11:Hid (NRow W11 B (.slice av i cv) (vs.take i)):=hide ((HN9.out.below hb10).below s11)
      have HO11:Hid (NumV W11 (.agg #[.bool on,.slice oa ol ok]) z):=hide (hOv.below s11 (Nat.le_refl _))
      have hB11:Below w6.heap.size w6 W11:=(hB9.trans (hb10.mono hB9.size)).trans (s11.mono (Nat.le_trans hB9.size hb10.size))
      have hBs:B ≤ W11.heap.size:=Nat.le_trans hBe hB11.size
      have HNS:=hide hNS
      have HW11:=hide hW11
      clear hOv hW11 hNS s11 hb10 hB9 HN9 hI9 k0 k1
      go_wp2_with (at_builtin; rw [HW11.out]; refine wpList_append_num (B:=B) (v:=.slice av i cv) (vs:=vs.take i) (ad:=⟨w10.heap.size,0,none⟩) (n:=on) (b:=oa) (l:=ol) (k:=ok) (z:=z) rfl (.tmp 91) (.tmp 94) rfl rfl HN11.out rfl HNS.out HO11.out (by rw [HLT.out]; omega) hBs ?_)
      intro v12 w12 hN12 hb12
      have hB12:Below w6.heap.size w6 w12:=hB11.trans (hb12.mono hBe2')
      rw [← HTK.out] at hN12
      obtain ⟨a12,c12,rfl,-⟩:=hN12.list
      have hl12:(vs.take (i + 1)).length = i + 1:=by rw [List.length_take]; omega
      rw [hl12] at hN12 ⊢
      have HN12:=hide hN12
      clear hN12 hb12 hB11 HN11 HO11 HNS HW11 hl12
      go_wp2_with fail
      go_roundg (gk - 1)
      case measure=>omega
      case rel=>exact ⟨i + 1,a12,c12,by omega,by go_num,rfl,hB12,HN12⟩
   ·subst hv
    obtain ⟨hvs,hrm,hris⟩:=HO.out.rises rfl
    subst hvs
    have hnear:nearB (fewL rs rr) 3 n [] = false:=unsat_near HO.out rfl hrm
    have hrm':∀ i ∈ rr,i < rs.length:=hrm
    have HRM:=hide hrm'
    have HRI:=hide hris
    have HNE:=hide hnear
    have HA6:=hide hA6
    have HX6:=hide hx6
    obtain ⟨W7,hW7⟩:∃ W,w6.alloc (.cells #[] 45) = W:=⟨_,rfl⟩
    obtain ⟨N,hNN⟩:∃ g,w6.heap.size = g:=⟨_,rfl⟩
    have s7:Below N w6 W7:=by rw [← hW7,← hNN]; exact (Below.refl _ _).alloc (Nat.le_refl _) _
    have hM0:MadeI W7 N 45 (.slice (some ⟨N,0,none⟩) 0 0) []:=by rw [← hW7,← hNN]; exact World.ownsRow_made w6 #[] 0 (Nat.le_refl _) (by unfold maxLen; omega) rfl
    have HM0:Hid (N ≤ N ∧ MadeI W7 N 45 (.slice (some ⟨N,0,none⟩) 0 0) (fewL rs (rr.take 0))):=hide ⟨Nat.le_refl _,hM0⟩
    have hN7:N ≤ W7.heap.size:=by rw [← hNN] at s7 ⊢; exact s7.size
    have hNe:w6.heap.size ≤ N:=Nat.le_of_eq hNN
    have HW7:=hide hW7
    have HNN:=hide hNN
    have Z1:=hide z1
    have Z2:=hide z2
    clear hW7 hNN hM0 hrm hrm' hris hnear hA6 hx6 HO hus
    go_upto_region 24 with (fail)
    rw [HW7.out,HNN.out]
    clear HW7 HNN
    replace z2:=cellB z2 s7 hNe
    clear z1
    go_wp2_with fail
    go_loopg [13,118] rr.length (fun k v13 v118 wr=>∃ (i g c:Nat),i + k = rr.length ∧ v118 = .int .i64 (i:Int) ∧ v13 = .slice (some ⟨g,0,none⟩) i c ∧ Below N w6 wr ∧ N ≤ wr.heap.size ∧ Hid (N ≤ g ∧ MadeI wr N 45 (.slice (some ⟨g,0,none⟩) i c) (fewL rs (rr.take i))))
    case atStart=>exact ⟨0,N,0,by omega,rfl,rfl,s7,hN7,HM0⟩
    case round=>
     clear HM0 s7 hN7
     obtain ⟨i,g,c,hik,rfl,rfl,hB,hBN,HM⟩:=hrel
     have sbr:Below w.heap.size w wr:=sb6.trans (hB.mono (Nat.le_trans sb6.size hNe))
     rcases Nat.eq_zero_or_pos gk with h0 | h0
     ·subst h0
      obtain rfl:i = rr.length:=by omega
      have hm:=HM.out.2
      rw [List.take_length] at hm
      have hlen:=(few_len HRM.out).1
      have hfx:IRowsAt wr (some ⟨g,0,none⟩) (fewL rs rr):=MadeI.rows3 (by rw [hlen]; exact hm) (fun r hr=>rows_parts (HX6.out.below hB hNe) r (few_mem hr))
      have hnc:=near_any (c1:=c) (n:=n) (N:=3) wr hfx (by omega) (by decide) (few_right HR.out) (fun r hr=>(HS.out r (few_mem hr)).2) (by omega)
      rw [hlen,HNE.out] at hnc
      have HNC:=hide hnc
      have y1:=cellB Z1.out hB hNe
      clear hnc hfx hlen hm HM hik
      go_wp2_with fail
      refine HNC.out.mono ?_
      rintro e w9 ⟨rfl,hb9⟩
      clear HNC
      go_wp2_with fail
      go_ret
      exact ⟨rfl,sbr.trans (hb9.mono sbr.size)⟩
     ·have hi:i < rr.length:=by omega
      have ei:(i:Int) < (rr.length:Int):=by omega
      obtain ⟨gb,go,rfl,hd⟩:=HA6.out.rows (by omega)
      obtain ⟨q,hq⟩:∃ q,rr[i] = q:=⟨_,rfl⟩
      have d0:=cellB (hd i hi) hB hNe
      have hqm:q < rs.length:=by rw [← hq]; exact HRM.out _ (List.getElem_mem hi)
      have hnx:=few_next (rs:=rs) hi (by rw [hq]; exact hqm)
      rw [hq] at d0
      have eq0:¬(q:Int) < 0:=by omega
      have eq1:¬(rs.length:Int) ≤ (q:Int):=by omega
      have eqm:(q:Int) < (rs.length:Int):=by omega
      have y2:=cellB Z2.out hB hNe
      obtain ⟨b',o',e',hrow⟩:=HX6.out (by omega)
      injection e' with e'
      injection e' with e1 e2
      subst e1 e2
      obtain ⟨r0,-,-,m0,m1,-⟩:=(hrow q hqm).below hB hNe
      have hlen:(fewL rs (rr.take i)).length = i:=by
       rw [(few_len (fun j hj=>HRM.out j (List.mem_of_mem_take hj))).1,List.length_take]
       omega
      have hnx2:fewL rs (rr.take (i + 1)) = fewL rs (rr.take i) ++ [rs[q]]:=by
       rw [hnx]
       congr 2
       simp only [hq]
      obtain ⟨r,hrr⟩:∃ r,rs[q] = r:=⟨_,rfl⟩
      rw [hrr] at r0 m0 m1 hnx2
      simp only [Nat.zero_add,Nat.add_assoc,Nat.reduceAdd] at r0 m0 m1
      have how:(wr.alloc (.cells #[.slice r.at_ r.xs.length r.cap,.bool r.most.neg,.slice r.most.at_ r.most.ds.length r.most.cap] 45)).ownsRow N 45 3 (.slice (some ⟨g,0,none⟩) i c) i ((fewL rs (rr.take i)).flatMap LRow.cells):=by
       have h:=HM.out.2
       unfold MadeI at h
       rw [hlen] at h
       exact h.alloc _
      have hB4:Below N w6 (wr.alloc (.cells #[.slice r.at_ r.xs.length r.cap,.bool r.most.neg,.slice r.most.at_ r.most.ds.length r.most.cap] 45)):=hB.alloc hBN _
      have HOW:=hide how
      have HB4:=hide hB4
      have HNX:=hide hnx2
      have HLE:=hide hlen
      obtain ⟨i0,hi0,hz0,hz1,hz2⟩:=info_parts infoIR
      have hprev:0 < i → ∃ p:Nat,wr.cell? ⟨gb,go + (i - 1),none⟩ = some (.int .i64 (p:Int)) ∧ p < q:=fun h=>⟨rr[i - 1],cellB (hd (i - 1) (by omega)) hB hNe,by
       have:=HRI.out (i - 1) (by omega)
       have e:i - 1 + 1 = i:=by omega
       simp only [e,hq] at this
       exact this⟩
      have HPV:=hide hprev
      clear how hB4 hnx2 hlen hrow hd hnx hrr hq hprev
      rcases Nat.eq_zero_or_pos i with hz | hz
      ·have ez:¬(0:Int) < (i:Int):=by omega
       clear hz
       go_upto_region 29 with (fail)
       go_wp2_with (at_builtin; refine wpList_append_lies _ rfl (.tmp 145) (.tmp 150) 32 rfl N 45 i0 (.agg #[.slice none 0 0,.bool false,.slice none 0 0]) 3 56 Try.underlying32 hi0 hz0 hz1 hz2 rfl (by decide) (.slice (some ⟨g,0,none⟩) i c) i _ rfl HOW.out ⟨wr.heap.size,0,none⟩ 1 1 r.cells rfl rfl (news_three _ _ _ _ _) ?c1 (by decide) ?c2 ?c3 ?c4 (wr.heap.size + 1) ?c5 ?_)
       case c1=>simp [LRow.cells,Value.oneCell']
       case c2=>unfold maxLen; omega
       case c3=>omega
       case c4=>omega
       intro g' cp w9 hown hgrow hat hlt
       have hB9:Below N w6 w9:=HB4.out.grown hgrow (by simp; omega) (fun k hk=>by obtain rfl:=Option.some.inj hk; exact HM.out.1)
       have hN9:N ≤ w9.heap.size:=by have:=hgrow.size; simp at this; omega
       have HM9:Hid (N ≤ g' ∧ MadeI w9 N 45 (.slice (some ⟨g',0,none⟩) (i + 1) cp) (fewL rs (rr.take (i + 1)))):=hide ⟨(hown.lt g' rfl).1,by
        unfold MadeI
        rw [HNX.out,List.flatMap_append,List.length_append,HLE.out]
        simpa using hown⟩
       clear hown hgrow hat hlt HOW HB4
       go_wp2_with fail
       go_roundg (gk - 1)
       case measure=>omega
       case rel=>exact ⟨i + 1,g',cp,by omega,by go_num,rfl,hB9,hN9,HM9⟩
      ·obtain ⟨pv,d1,hpq⟩:=HPV.out hz
       have ez:(0:Int) < (i:Int):=by omega
       have ew:IntKind.i64.wrap ((i:Int) - 1) = ((i - 1:Nat):Int):=by rw [IntWalk.i64_in _ ⟨by omega,by omega⟩]; omega
       have ei1:((i - 1:Nat):Int) < (rr.length:Int):=by omega
       have ele:¬(q:Int) ≤ (pv:Int):=by omega
       clear hz
       go_upto_region 29 with (fail)
       go_wp2_with (at_builtin; refine wpList_append_lies _ rfl (.tmp 145) (.tmp 150) 32 rfl N 45 i0 (.agg #[.slice none 0 0,.bool false,.slice none 0 0]) 3 56 Try.underlying32 hi0 hz0 hz1 hz2 rfl (by decide) (.slice (some ⟨g,0,none⟩) i c) i _ rfl HOW.out ⟨wr.heap.size,0,none⟩ 1 1 r.cells rfl rfl (news_three _ _ _ _ _) ?c1 (by decide) ?c2 ?c3 ?c4 (wr.heap.size + 1) ?c5 ?_)
       case c1=>simp [LRow.cells,Value.oneCell']
       case c2=>unfold maxLen; omega
       case c3=>omega
       case c4=>omega
       intro g' cp w9 hown hgrow hat hlt
       have hB9:Below N w6 w9:=HB4.out.grown hgrow (by simp; omega) (fun k hk=>by obtain rfl:=Option.some.inj hk; exact HM.out.1)
       have hN9:N ≤ w9.heap.size:=by have:=hgrow.size; simp at this; omega
       have HM9:Hid (N ≤ g' ∧ MadeI w9 N 45 (.slice (some ⟨g',0,none⟩) (i + 1) cp) (fewL rs (rr.take (i + 1)))):=hide ⟨(hown.lt g' rfl).1,by
        unfold MadeI
        rw [HNX.out,List.flatMap_append,List.length_append,HLE.out]
        simpa using hown⟩
       clear hown hgrow hat hlt HOW HB4
       go_wp2_with fail
       go_roundg (gk - 1)
       case measure=>omega
       case rel=>exact ⟨i + 1,g',cp,by omega,by go_num,rfl,hB9,hN9,HM9⟩
end Go.Proofs.Ytphjffbldhhdiaa
