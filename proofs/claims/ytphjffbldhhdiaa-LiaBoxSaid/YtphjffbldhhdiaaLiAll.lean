/- lia's all: by its contract. -/
import Derived.Test.YtphjffbldhhdiaaLiAlone
import Derived.Test.YtphjffbldhhdiaaLiClone
namespace Go.Proofs.Ytphjffbldhhdiaa
open Go.RowKit

theorem bRows_len (f t:Nat → Option Int):∀ n,(bRows f t n).length ≤ 2 * n
 | 0=>by simp [bRows]
 | n + 1=>by
  have h:=bRows_len f t n
  have h1:∀ {A:Type} (o:Option A),(optL o).length ≤ 1:=fun o=>by cases o <;> simp [optL]
  have h2:=h1 ((t n).map fun b=>(n,(1:Int),b))
  have h3:=h1 ((f n).map fun b=>(n,(-1:Int),-b))
  rw [bRows,List.length_append,List.length_append]
  omega
theorem news_five (w:World) (x y z u v:Value) (t:TypeId):∀ j a,[x,y,z,u,v][j]? = some a → (w.alloc (.cells #[x,y,z,u,v] t)).cell? ((⟨w.heap.size,0,none⟩:Addr).add j) = some a:=World.news_of_block (heap_alloc_new w _)
theorem RowsC.alone {w w':World} {N g c:Nat} {v v':Value} {S:ISys} {l:List (Nat × Int × Int)} {z b:Int} {xs:List Value} {m p:Bool} {a a2:Option Addr} {x k i j:Nat}
  (h1:w.ownsRow N 99 5 v (S.m + l.length) xs) (h2:∀ g,v.ownBlock = some g → Calm w g) (h3:∀ g,v.ownBlock = some g → RowsX w g (S.all l))
  (hown:w'.ownsRow N 99 5 v' (S.m + l.length + 1) (xs ++ [.slice (some ⟨g,0,none⟩) S.n S.n,.bool m,.slice a x k,.bool p,.slice a2 i j])) (hgrow:w.grownBy w' v.ownBlock) (hat:v'.ownBlock = v.ownBlock ∨ v'.ownBlock = some w.heap.size) (hcalm:∀ g,v'.ownBlock = some g → Calm w' g)
  (hg:v.ownBlock ≠ some g) (hU:UnitR w g S.n c (z:Rat)) (hM:FracV w (.agg #[.bool m,.slice a x k,.bool p,.slice a2 i j]) (b:Rat)):RowsC w' N v' (S.all (l ++ [(c,z,b)])):=by
 refine RowsC.grow (S:=S.all l) (k:=1) (j:=S.m + l.length) rfl h1 h2 h3 rfl ?_ ?_ ?_ hown hgrow hat hcalm ?_
 ·show S.m + (l ++ [(c,z,b)]).length = S.m + l.length + 1
  simp
  omega
 ·intro q d hq hd
  have hd':d < S.n:=hd
  simp only [ISys.all,if_pos hd']
  by_cases h:q < S.m
  ·rw [if_pos h,if_pos h]
  ·rw [if_neg h,if_neg h,List.getElem?_append_left (by omega)]
 ·intro q hq
  simp only [ISys.all]
  by_cases h:q < S.m
  ·rw [if_pos h,if_pos h]
  ·rw [if_neg h,if_neg h,List.getElem?_append_left (by omega)]
 ·intro d hd
  obtain rfl:d = 0:=by omega
  have he:(l ++ [(c,z,b)])[S.m + l.length + 0 - S.m]? = some (c,z,b):=by
   rw [show S.m + l.length + 0 - S.m = l.length from by omega,List.getElem?_append_right (Nat.le_refl _),Nat.sub_self]
   rfl
  refine ⟨some ⟨g,0,none⟩,S.n,m,a,x,k,p,a2,i,j,fun e u hu=>by rw [Nat.zero_mul,Nat.zero_add]; exact hu,⟨Nat.le_refl _,fun e=>by cases e⟩,fun _=>⟨g,0,rfl,hg,fun d hd=>?_⟩,?_⟩
  ·have hd':d < S.n:=hd
   have e1:(S.all (l ++ [(c,z,b)])).A (S.m + l.length + 0) d = if c = d then (z:Rat) else 0:=by
    simp only [ISys.all]
    rw [if_pos hd',if_neg (by omega),he]
   rw [e1,Nat.zero_add]
   exact hU d hd'
  ·have e1:(S.all (l ++ [(c,z,b)])).most (S.m + l.length + 0) = (b:Rat):=by
    simp only [ISys.all]
    rw [if_neg (by omega),he]
   rw [e1]
   exact hM
def AllPost (w:World) (S:ISys) (st:LS) (e:Ending) (w':World):Prop:=Below w.heap.size w w' ∧ ∃ v,e = .returned v ∧ RowsC w' w.heap.size v (S.all (bRows st.floor st.top S.n))
set_option maxRecDepth 100000 in
set_option maxHeartbeats 6400000 in
theorem all_any {N:Nat} {S:ISys} {st:LS} {L:LSp} (w:World) (h:LiW N w S st L) (hft:∀ v,v < S.n → (∀ b,st.top v = some b → Sm b) ∧ ∀ b,st.floor v = some b → Sm b) (hn:S.n ≤ 400) (hm:S.m ≤ 1000) :
  Calls Try.prog 28 #[.pointer (some ⟨L.p,0,none⟩)] w (AllPost w S st):=by
 generalize hP:AllPost w S st = Post
 have HP:=hide hP
 have H:=hide h
 have HFT:=hide hft
 have hNp:L.p < w.heap.size:=h.blk.lt
 have hgt:L.gt < w.heap.size:=h.tb.lt
 have hgf:L.gf < w.heap.size:=h.fb.lt
 obtain ⟨ra,rk,hvr,hrw⟩:∃ a k,L.vr = .slice a S.m k ∧ RowsB w (.slice a S.m k) (S.all []) L.Free:=by
  obtain ⟨a,k,e,h1⟩:=h.rows
  exact ⟨a,k,e,a,k,rfl,h1⟩
 have hp0:w.cell? ⟨L.p,0,none⟩ = some (.int .i64 (S.n:Int)):=h.blk.cell 0
 have hp1:w.cell? ⟨L.p,1,none⟩ = some (.slice ra S.m rk):=by rw [← hvr]; exact h.blk.cell 1
 have hp2:w.cell? ⟨L.p,2,none⟩ = some (.slice (some ⟨L.gf,0,none⟩) S.n S.n):=h.blk.cell 2
 have hp3:w.cell? ⟨L.p,3,none⟩ = some (.slice (some ⟨L.gt,0,none⟩) S.n S.n):=h.blk.cell 3
 have hcl:Calls Try.prog 59 #[.slice ra S.m rk] w (RClonePost w (S.all [])):=rclone_any (S:=S.all []) (cap:=rk) (a:=ra) (P:=L.Free) w hrw (by show S.m + 0 ≤ 1000; omega)
 have HCL:=hide hcl
 clear hP h hft hrw hvr hcl
 go_enter Try.func28,Try.ntmps28
 go_wp2_with (go_at_call 59; with_reducible refine HCL.out.mono ?_)
 rintro e w1 ⟨hb1,v1,rfl,hC1⟩
 have HC1:=hide hC1
 have q0:=cellB hp0 hb1 (Nat.le_refl _)
 clear hC1
 go_wp2_with fail
 go_loopg [3,16] S.n (fun k v3 v16 wr=>∃ (j:Nat) (vv:Value),v3 = vv ∧ j + k = S.n ∧ v16 = .int .i64 (j:Int) ∧ Below w.heap.size w wr ∧ Hid (RowsC wr w.heap.size vv (S.all (bRows st.floor st.top j))))
 case atStart=>exact ⟨0,_,rfl,by omega,rfl,hb1,HC1⟩
 case round=>
  clear HC1 q0 hb1
  obtain ⟨j,v3,he3,hjk,rfl,hB,HC⟩:=hrel
  have he3':=he3.symm
  subst he3'
  clear he3
  rcases Nat.eq_zero_or_pos gk with h0 | h0
  ·subst h0
   obtain rfl:j = S.n:=by omega
   have HE:∀ vv,v3 = vv → Hid (Post (.returned vv) wr):=fun vv e=>hide (by
    rw [← HP.out,← e]
    exact ⟨hB,_,rfl,HC.out⟩)
   obtain ⟨a3,k3,e3,-⟩:=HC.out.form
   obtain rfl:=e3
   have HE':=HE _ rfl
   clear hjk HE HC
   go_wp2_with fail
   exact HE'.out
  ·have hj:j < S.n:=by omega
   have ej:(j:Int) < (S.n:Int):=by omega
   have hL:=H.out.below (hB.mono (Nat.le_refl _))
   have p0:=cellB hp0 hB (Nat.le_refl _)
   have p2:=cellB hp2 hB (Nat.le_refl _)
   have p3:=cellB hp3 hB (Nat.le_refl _)
   obtain ⟨bok,bz,b0,⟨bm,ba,bl,bc,b1,b2,hbz⟩,hbe⟩:=hL.tp j hj
   have HBZ:=hide hbz
   have HBE:=hide hbe
   clear hL hbz hbe
   go_upto_region 5 with (fail)
   obtain ⟨W2,hW2⟩:∃ W2,wr.alloc (.cells #[.bool bok,.bool bm,.slice ba bl bc] 82) = W2:=⟨_,rfl⟩
   obtain ⟨g5,hg5⟩:∃ g,wr.heap.size = g:=⟨_,rfl⟩
   have hb5:Blk W2 g5 82 #[.bool bok,.bool bm,.slice ba bl bc]:=by rw [← hW2,← hg5]; exact Blk.new _ _ _
   have hb2:Below wr.heap.size wr W2:=by rw [← hW2]; exact (Below.refl _ _).alloc (Nat.le_refl _) _
   have hB2:Below w.heap.size w W2:=hB.trans (hb2.mono hB.size)
   have HC2:Hid (RowsC W2 w.heap.size v3 (S.all (bRows st.floor st.top j))):=hide (HC.out.below hb2)
   have HBZ2:Hid (IntV W2 (.agg #[.bool bm,.slice ba bl bc]) bz):=hide (HBZ.out.below hb2 (Nat.le_refl _))
   have hg5w:w.heap.size ≤ g5:=by rw [← hg5]; exact hB.size
   have HG5:Hid (∀ g,v3.ownBlock = some g → g < g5):=hide (fun g e=>by rw [← hg5]; exact (HC.out.lt g e).2)
   have HW2:=hide hW2
   have HGG:=hide hg5
   clear hW2 hg5 HC HBZ
   go_upto_region 6 with (fail)
   rw [HW2.out,HGG.out]
   clear HW2 HGG b0 b1 b2
   obtain ⟨b0,b1,b2,-⟩:=hb5.c3
   replace p0:=cellB p0 hb2 (Nat.le_refl _)
   go_upto_if 27 with (fail)
   go_cut [3] from 28 to 36 (fun v3 wc=>∃ vv:Value,v3 = vv ∧ Below w.heap.size w wc ∧ Hid (RowsC wc w.heap.size vv (S.all (bRows st.floor st.top j ++ optL ((st.top j).map fun b=>(j,(1:Int),b))))))
   case first=>
    cases hok:bok with
    | false=>
     subst hok
     have HR:Hid (RowsC W2 w.heap.size v3 (S.all (bRows st.floor st.top j ++ optL ((st.top j).map fun b=>(j,(1:Int),b))))):=hide (by
      rw [HBE.out,if_neg (by simp)]
      show RowsC W2 w.heap.size v3 (S.all (bRows st.floor st.top j ++ []))
      rw [List.append_nil]
      exact HC2.out)
     clear HC2 HBE HBZ2
     go_wp2_with fail
     go_meet
     exact ⟨_,rfl,hB2,HR⟩
    | true=>
     subst hok
     have e0:st.top j = some bz:=by rw [HBE.out,if_pos rfl]
     have HE0:=hide e0
     have hsm:Sm bz:=(HFT.out j hj).1 bz e0
     obtain ⟨xs,hx1,hx2,hx3⟩:=HC2.out
     have HX1:=hide hx1
     have HX2:=hide hx2
     have HX3:=hide hx3
     clear hx1 hx2 hx3 HC2 HBE e0
     obtain ⟨i0,hi0,hz0,hz1,hz2⟩:=info_parts infoRw
     have HZU:=hide zeroRw_calm
     have hlen:=bRows_len st.floor st.top j
     obtain ⟨M,hM⟩:∃ M,S.m + (bRows st.floor st.top j).length = M:=⟨_,rfl⟩
     have hM4:M ≤ 2000:=by omega
     have HM:=hide hM
     have HX1':Hid (W2.ownsRow w.heap.size 99 5 v3 M xs):=hide (by rw [← hM]; exact HX1.out)
     clear hM hlen HX1
     go_upto_region 7 with (fail)
     have hT:Below W2.heap.size W2 W2.drew:=(Below.refl _ _).drew
     refine wp_region_held_drew (S:=fun w'=>w'.cell? ⟨g5,1,none⟩ = some (.bool bm) ∧ w'.cell? ⟨g5,2,none⟩ = some (.slice ba bl bc) ∧ Below w.heap.size w w') (by kernel_rfl) (⟨b1,b2,hB2.drew⟩) (fun hS=>?_)
     refine tkH 0 ⟨some 28,.move (.tmp 3),66,"lia.go:114",#[],none⟩ hS ?_
     try simp only [Act.put,sB,sC,sD]
     refine tkH 1 ⟨some 29,.move (.tmp 0),59,"lia.go:114",#[],none⟩ hS ?_
     try simp only [Act.put,sB,sC,sD]
     refine tkH 2 ⟨some 30,.move (.tmp 4),3,"lia.go:114",#[],none⟩ hS ?_
     try simp only [Act.put,sB,sC,sD]
     refine tkH 4 ⟨some 32,.fieldAddr 82 (.tmp 5) 1,0,"lia.go:114",#[],none⟩ hS ?_
     try simp only [Act.put,sB,sC,sD]
     refine tkH 5 ⟨some 33,.load 38 (.tmp 32),38,"lia.go:114",#[eD 4],none⟩ hS ?_
     try simp only [Act.put,sB,sC,sD]
     refine wpAnyH_ready (rs:=[3]) (by kernel_rfl) (by simp) ?_
     refine AllReadyH.cons (o:=⟨some 31,.call { callee:=.value (.func 21),args:=#[.const (.int .i64 1)],argTypes:=#[2] },38,"lia.go:114",#[],none⟩) rfl (fun K hK=>?_) AllReadyH.nil
     go_simp
     (go_at_call 21; (with_reducible refine (Of_any 1 _ (by decide) (by decide)).mono ?_); rintro e wA ⟨rA,rfl,hA,hb1⟩)
     obtain ⟨an,aa,al,ak,rfl⟩:=hA.form
     replace hT:=hT.trans (hb1.mono hT.size)
     go_wp2_with fail
     refine hK.out _ _ ((kp2 hS hb1)) (fun hS=>?_)
     clear hK K hb1
     try simp only [Act.put,sB,sC,sD]
     refine wpAnyH_ready (rs:=[6]) (by kernel_rfl) (by simp) ?_
     refine AllReadyH.cons (o:=⟨some 34,.call { callee:=.value (.func 60),args:=#[.tmp 29,.tmp 30,.tmp 31,.tmp 33],argTypes:=#[59,3,38,38] },99,"lia.go:114",#[eD 1,eD 2,eD 3,eD 5,eC 3],none⟩) rfl (fun K hK=>?_) AllReadyH.nil
     go_simp
     (go_at_call 60; (with_reducible refine (alone_any _ (cellB p0 hT (Nat.le_refl _)) hA (HBZ2.out.below hT (Nat.le_refl _)) (sm_small (by decide)) hsm hj (by omega)).mono ?_); rintro e wD ⟨hb1,gU,qm,qa,ql,qk,qp,qb,qi,qj,hgU,rfl,hU,hQ⟩)
     have hgU5:g5 < gU:=by have h1:=hb5.lt; have h2:=hT.size; omega
     replace hT:=hT.trans (hb1.mono hT.size)
     go_wp2_with fail
     refine hK.out _ _ ((kp2 hS hb1)) (fun hS=>?_)
     clear hK K hb1
     try simp only [Act.put,sB,sC,sD]
     refine wpAnyH_ready (rs:=[7]) (by kernel_rfl) (by simp) ?_
     refine AllReadyH.cons (o:=⟨some 35,.buildSlice 66 1 #[(0,.tmp 34)],66,"lia.go:114",#[eD 6],none⟩) rfl (fun K hK=>?_) AllReadyH.nil
     obtain ⟨WA,hWA⟩:∃ WA,wD.alloc (.cells #[.slice (some ⟨gU,0,none⟩) S.n S.n,.bool qm,.slice qa ql qk,.bool qp,.slice qb qi qj] 99) = WA:=⟨_,rfl⟩
     have hbA:Below wD.heap.size wD WA:=by rw [← hWA]; exact (Below.refl _ _).alloc (Nat.le_refl _) _
     have HNS:Hid (∀ j u,([.slice (some ⟨gU,0,none⟩) S.n S.n,.bool qm,.slice qa ql qk,.bool qp,.slice qb qi qj]:List Value)[j]? = some u → WA.cell? ((⟨wD.heap.size,0,none⟩:Addr).add j) = some u):=hide (by rw [← hWA]; exact news_five _ _ _ _ _ _ _)
     have HWA:=hide hWA
     clear hWA
     go_simp
     rw [HWA.out]
     replace hT:=hT.trans (hbA.mono hT.size)
     refine hK.out _ _ ⟨cellK hbA hS.1,cellK hbA hS.2.1,hS.2.2.trans (hbA.mono hS.2.2.size)⟩ (fun hS=>?_)
     clear hK K HWA
     try simp only [Act.put,sB,sC,sD]
     refine wpAnyH_ready (rs:=[8]) (by kernel_rfl) (by simp) ?_
     refine AllReadyH.cons (o:=⟨some 36,.call { callee:=.builtin .append,args:=#[.tmp 28,.tmp 35],argTypes:=#[66,66] },66,"lia.go:114",#[eD 0,eD 7,eC 6],none⟩) rfl (fun K hK=>?_) AllReadyH.nil
     have hBA:Below W2.heap.size W2 WA:=hT
     have HXA:Hid (WA.ownsRow w.heap.size 99 5 v3 M xs):=hide (own_stays HX1'.out (fun g hg=>hBA.block g (HX1'.out.lt g hg).2))
     have HXB:Hid (∀ g,v3.ownBlock = some g → Calm WA g):=hide (fun g hg=>(HX2.out g hg).below hBA (HX1'.out.lt g hg).2)
     have HXC:Hid (∀ g,v3.ownBlock = some g → RowsX WA g (S.all (bRows st.floor st.top j))):=hide (fun g hg=>(HX3.out g hg).below hBA (Nat.le_refl _))
     have HNU:Hid (∀ u ∈ [.slice (some ⟨gU,0,none⟩) S.n S.n,.bool qm,.slice qa ql qk,.bool qp,.slice qb qi qj],NoU u):=hide (row_calm _ _ _ _ _ _ _ _ _ _ _)
     have hNW:w.heap.size ≤ WA.heap.size:=Nat.le_trans hB2.size hBA.size
     have hUA:UnitR WA gU S.n j ((1:Int):Rat):=fun i hi=>(hU i hi).below hbA (Nat.le_refl _)
     have hQA:=hQ.below hbA (Nat.le_refl _)
     have HUA:=hide hUA
     have HQA:=hide hQA
     clear hbA hUA hQA hU hQ
     refine step_append_calm _ rfl (.tmp 28) (.tmp 35) 66 rfl w.heap.size 99 i0 (.agg #[.slice none 0 0,.bool false,.slice none 0 0,.bool false,.slice none 0 0]) 5 88 Try.underlying66 hi0 hz0 hz1 hz2 rfl (by decide) v3 M xs (by rfl) HXA.out ⟨wD.heap.size,0,none⟩ 1 1 [.slice (some ⟨gU,0,none⟩) S.n S.n,.bool qm,.slice qa ql qk,.bool qp,.slice qb qi qj] (by rfl) rfl HNS.out (by simp [Value.oneCell']) (by unfold maxLen; omega) (by omega) hNW HXB.out HNU.out HZU.out ?_
     intro v9 w9 hown hgrow hat hcalm
     have hgrow0:=hgrow
     have hB9:Below w.heap.size w w9:=(hB2.trans (hBA.mono hB2.size)).grown hgrow (by omega) (fun k hk=>(HX1'.out.lt k hk).1)
     have HR9:Hid (RowsC w9 w.heap.size v9 (S.all (bRows st.floor st.top j ++ optL ((st.top j).map fun b=>(j,(1:Int),b))))):=hide (by have e:=RowsC.alone (z:=1) (b:=bz) (by rw [HM.out]; exact HXA.out) HXB.out HXC.out (by rw [HM.out]; exact hown) hgrow hat hcalm (fun e=>by have:=HG5.out gU e; omega) HUA.out HQA.out; rw [HE0.out]; exact e)
     obtain ⟨ya,yk,rfl⟩:=own_slice hown
     clear hown hgrow hat hcalm
     have hg5ne:∀ g,v3.ownBlock = some g → g5 ≠ g:=fun g e=>by have:=HG5.out g e; omega
     have hkc:∀ i u,WA.cell? ⟨g5,i,none⟩ = some u → w9.cell? ⟨g5,i,none⟩ = some u:=fun i u hu=>hgrow0.cell hu (fun e=>hg5ne g5 e.symm rfl)
     refine hK.out _ _ ⟨hkc 1 _ hS.1,hkc 2 _ hS.2.1,hB9⟩ (fun hS=>?_)
     clear hK K hkc hgrow0 hg5ne HXA HXB HXC HNU HNS HUA HQA HX1' HX2 HX3
     try simp only [Act.put,sB,sC,sD]
     refine tkH 9 ⟨some 3,.assign (.tmp 36),66,"lia.go:114",#[eD 8,eC 8,eP 0,eP 1,eP 2,eP 3,eP 4,eP 5,eP 6,eP 7,eP 8],none⟩ hS ?_
     try simp only [Act.put,sB,sC,sD]
     refine wpAnyH_done (by kernel_rfl) ?_ _
     clear hS
     go_wp2_with fail
     go_meet
     exact ⟨_,rfl,hB9,HR9⟩
   case rest=>
    obtain ⟨v3,he3,hB3,HC3⟩:=hcut
    have he3':=he3.symm
    subst he3'
    clear he3
    clear HBZ2 HBE b0 b1 b2 HC2 p0 p2 p3 HG5 hg5w hb5 hb2 hB2
    have hL:=H.out.below hB3
    have p0:=cellB hp0 hB3 (Nat.le_refl _)
    have p2:=cellB hp2 hB3 (Nat.le_refl _)
    obtain ⟨bok,bz,b0,⟨bm,ba,bl,bc,b1,b2,hbz⟩,hbe⟩:=hL.fl j hj
    have HBZ:=hide hbz
    have HBE:=hide hbe
    clear hL hbz hbe
    obtain ⟨W2,hW2⟩:∃ W2,wc.alloc (.cells #[.bool bok,.bool bm,.slice ba bl bc] 82) = W2:=⟨_,rfl⟩
    obtain ⟨g5,hg5⟩:∃ g,wc.heap.size = g:=⟨_,rfl⟩
    have hb5:Blk W2 g5 82 #[.bool bok,.bool bm,.slice ba bl bc]:=by rw [← hW2,← hg5]; exact Blk.new _ _ _
    have hb2:Below wc.heap.size wc W2:=by rw [← hW2]; exact (Below.refl _ _).alloc (Nat.le_refl _) _
    have hB2:Below w.heap.size w W2:=hB3.trans (hb2.mono hB3.size)
    have HC2:Hid (RowsC W2 w.heap.size v3 (S.all (bRows st.floor st.top j ++ optL ((st.top j).map fun b=>(j,(1:Int),b))))):=hide (HC3.out.below hb2)
    have HBZ2:Hid (IntV W2 (.agg #[.bool bm,.slice ba bl bc]) bz):=hide (HBZ.out.below hb2 (Nat.le_refl _))
    have hg5w:w.heap.size ≤ g5:=by rw [← hg5]; exact hB3.size
    have HG5:Hid (∀ g,v3.ownBlock = some g → g < g5):=hide (fun g e=>by rw [← hg5]; exact (HC3.out.lt g e).2)
    have HW2:=hide hW2
    have HGG:=hide hg5
    clear hW2 hg5 HC3 HBZ
    cases hok:bok with
    | false=>
     subst hok
     have HR:Hid (RowsC W2 w.heap.size v3 (S.all (bRows st.floor st.top (j + 1)))):=hide (by
      rw [bRows,HBE.out,if_neg (by simp)]
      show RowsC W2 w.heap.size v3 (S.all (bRows st.floor st.top j ++ (optL _ ++ [])))
      rw [List.append_nil]
      exact HC2.out)
     clear HC2 HBE HBZ2
     go_upto_region 9 with (fail)
     rw [HW2.out,HGG.out]
     clear HW2 HGG b0 b1 b2
     obtain ⟨b0,b1,b2,-⟩:=hb5.c3
     go_wp2_with fail
     go_roundg (gk - 1)
     case measure=>omega
     case rel=>exact ⟨j + 1,_,rfl,by omega,by go_num,hB2,HR⟩
    | true=>
     subst hok
     have e0:st.floor j = some bz:=by rw [HBE.out,if_pos rfl]
     have HE0:=hide e0
     have hsm:Sm bz:=(HFT.out j hj).2 bz e0
     obtain ⟨xs,hx1,hx2,hx3⟩:=HC2.out
     have HX1:=hide hx1
     have HX2:=hide hx2
     have HX3:=hide hx3
     clear hx1 hx2 hx3 HC2 HBE e0
     go_upto_region 9 with (fail)
     rw [HW2.out,HGG.out]
     clear HW2 HGG b0 b1 b2
     obtain ⟨b0,b1,b2,-⟩:=hb5.c3
     replace p0:=cellB p0 hb2 (Nat.le_refl _)
     obtain ⟨i0,hi0,hz0,hz1,hz2⟩:=info_parts infoRw
     have HZU:=hide zeroRw_calm
     have hlen:=bRows_len st.floor st.top j
     have hlen2:(optL ((st.top j).map fun b=>(j,(1:Int),b))).length ≤ 1:=by cases st.top j <;> simp [optL]
     obtain ⟨M,hM⟩:∃ M,S.m + (bRows st.floor st.top j ++ optL ((st.top j).map fun b=>(j,(1:Int),b))).length = M:=⟨_,rfl⟩
     have hM4:M ≤ 2000:=by rw [List.length_append] at hM; omega
     have HM:=hide hM
     have HX1':Hid (W2.ownsRow w.heap.size 99 5 v3 M xs):=hide (by rw [← hM]; exact HX1.out)
     clear hM hlen hlen2 HX1
     go_upto_region 10 with (fail)
     have hsn:Sm (-bz):=by unfold Sm; rw [len_neg]; exact hsm
     have hT:Below W2.heap.size W2 W2.drew:=(Below.refl _ _).drew
     refine wp_region_held_drew (S:=fun w'=>w'.cell? ⟨g5,1,none⟩ = some (.bool bm) ∧ w'.cell? ⟨g5,2,none⟩ = some (.slice ba bl bc) ∧ Below w.heap.size w w') (by kernel_rfl) (⟨b1,b2,hB2.drew⟩) (fun hS=>?_)
     refine tkH 0 ⟨some 46,.move (.tmp 3),66,"lia.go:117",#[],none⟩ hS ?_
     try simp only [Act.put,sB,sC,sD]
     refine tkH 1 ⟨some 47,.move (.tmp 0),59,"lia.go:117",#[],none⟩ hS ?_
     try simp only [Act.put,sB,sC,sD]
     refine tkH 2 ⟨some 48,.move (.tmp 4),3,"lia.go:117",#[],none⟩ hS ?_
     try simp only [Act.put,sB,sC,sD]
     refine tkH 4 ⟨some 50,.fieldAddr 82 (.tmp 6) 1,0,"lia.go:117",#[],none⟩ hS ?_
     try simp only [Act.put,sB,sC,sD]
     refine tkH 5 ⟨some 51,.load 38 (.tmp 50),38,"lia.go:117",#[eD 4],none⟩ hS ?_
     try simp only [Act.put,sB,sC,sD]
     refine wpAnyH_ready (rs:=[3]) (by kernel_rfl) (by simp) ?_
     refine AllReadyH.cons (o:=⟨some 49,.call { callee:=.value (.func 21),args:=#[.const (.int .i64 (-1))],argTypes:=#[2] },38,"lia.go:117",#[],none⟩) rfl (fun K hK=>?_) AllReadyH.nil
     go_simp
     (go_at_call 21; (with_reducible refine (Of_any (-1) _ (by decide) (by decide)).mono ?_); rintro e wA ⟨rA,rfl,hA,hb1⟩)
     obtain ⟨an,aa,al,ak,rfl⟩:=hA.form
     replace hT:=hT.trans (hb1.mono hT.size)
     go_wp2_with fail
     refine hK.out _ _ ((kp2 hS hb1)) (fun hS=>?_)
     clear hK K hb1
     try simp only [Act.put,sB,sC,sD]
     refine wpAnyH_ready (rs:=[6]) (by kernel_rfl) (by simp) ?_
     refine AllReadyH.cons (o:=⟨some 52,.call { callee:=.value (.func 22),args:=#[.tmp 51],argTypes:=#[38] },38,"lia.go:117",#[eD 5,eC 3],none⟩) rfl (fun K hK=>?_) AllReadyH.nil
     go_simp
     (go_at_call 22; (with_reducible refine (Neg_any _ (HBZ2.out.below hT (Nat.le_refl _)) hsm).mono ?_); rintro e wN ⟨rN,rfl,hN,hb1⟩)
     obtain ⟨cn,ca,cl,ck,rfl⟩:=hN.form
     have hA2:=hA.below hb1 (Nat.le_refl _)
     replace hT:=hT.trans (hb1.mono hT.size)
     go_wp2_with fail
     refine hK.out _ _ ((kp2 hS hb1)) (fun hS=>?_)
     clear hK K hb1
     try simp only [Act.put,sB,sC,sD]
     refine wpAnyH_ready (rs:=[7]) (by kernel_rfl) (by simp) ?_
     refine AllReadyH.cons (o:=⟨some 53,.call { callee:=.value (.func 60),args:=#[.tmp 47,.tmp 48,.tmp 49,.tmp 52],argTypes:=#[59,3,38,38] },99,"lia.go:117",#[eD 1,eD 2,eD 3,eD 6,eC 6],none⟩) rfl (fun K hK=>?_) AllReadyH.nil
     go_simp
     (go_at_call 60; (with_reducible refine (alone_any _ (cellB p0 hT (Nat.le_refl _)) hA2 hN (sm_small (by decide)) hsn hj (by omega)).mono ?_); rintro e wD ⟨hb1,gU,qm,qa,ql,qk,qp,qb,qi,qj,hgU,rfl,hU,hQ⟩)
     have hgU5:g5 < gU:=by have h1:=hb5.lt; have h2:=hT.size; omega
     replace hT:=hT.trans (hb1.mono hT.size)
     go_wp2_with fail
     refine hK.out _ _ ((kp2 hS hb1)) (fun hS=>?_)
     clear hK K hb1
     try simp only [Act.put,sB,sC,sD]
     refine wpAnyH_ready (rs:=[8]) (by kernel_rfl) (by simp) ?_
     refine AllReadyH.cons (o:=⟨some 54,.buildSlice 66 1 #[(0,.tmp 53)],66,"lia.go:117",#[eD 7],none⟩) rfl (fun K hK=>?_) AllReadyH.nil
     obtain ⟨WA,hWA⟩:∃ WA,wD.alloc (.cells #[.slice (some ⟨gU,0,none⟩) S.n S.n,.bool qm,.slice qa ql qk,.bool qp,.slice qb qi qj] 99) = WA:=⟨_,rfl⟩
     have hbA:Below wD.heap.size wD WA:=by rw [← hWA]; exact (Below.refl _ _).alloc (Nat.le_refl _) _
     have HNS:Hid (∀ j u,([.slice (some ⟨gU,0,none⟩) S.n S.n,.bool qm,.slice qa ql qk,.bool qp,.slice qb qi qj]:List Value)[j]? = some u → WA.cell? ((⟨wD.heap.size,0,none⟩:Addr).add j) = some u):=hide (by rw [← hWA]; exact news_five _ _ _ _ _ _ _)
     have HWA:=hide hWA
     clear hWA
     go_simp
     rw [HWA.out]
     replace hT:=hT.trans (hbA.mono hT.size)
     refine hK.out _ _ ⟨cellK hbA hS.1,cellK hbA hS.2.1,hS.2.2.trans (hbA.mono hS.2.2.size)⟩ (fun hS=>?_)
     clear hK K HWA
     try simp only [Act.put,sB,sC,sD]
     refine wpAnyH_ready (rs:=[9]) (by kernel_rfl) (by simp) ?_
     refine AllReadyH.cons (o:=⟨some 55,.call { callee:=.builtin .append,args:=#[.tmp 46,.tmp 54],argTypes:=#[66,66] },66,"lia.go:117",#[eD 0,eD 8,eC 7],none⟩) rfl (fun K hK=>?_) AllReadyH.nil
     have hBA:Below W2.heap.size W2 WA:=hT
     have HXA:Hid (WA.ownsRow w.heap.size 99 5 v3 M xs):=hide (own_stays HX1'.out (fun g hg=>hBA.block g (HX1'.out.lt g hg).2))
     have HXB:Hid (∀ g,v3.ownBlock = some g → Calm WA g):=hide (fun g hg=>(HX2.out g hg).below hBA (HX1'.out.lt g hg).2)
     have HXC:Hid (∀ g,v3.ownBlock = some g → RowsX WA g (S.all (bRows st.floor st.top j ++ optL ((st.top j).map fun b=>(j,(1:Int),b))))):=hide (fun g hg=>(HX3.out g hg).below hBA (Nat.le_refl _))
     have HNU:Hid (∀ u ∈ [.slice (some ⟨gU,0,none⟩) S.n S.n,.bool qm,.slice qa ql qk,.bool qp,.slice qb qi qj],NoU u):=hide (row_calm _ _ _ _ _ _ _ _ _ _ _)
     have hNW:w.heap.size ≤ WA.heap.size:=Nat.le_trans hB2.size hBA.size
     have hUA:UnitR WA gU S.n j ((-1:Int):Rat):=fun i hi=>(hU i hi).below hbA (Nat.le_refl _)
     have hQA:=hQ.below hbA (Nat.le_refl _)
     have HUA:=hide hUA
     have HQA:=hide hQA
     clear hbA hUA hQA hU hQ
     refine step_append_calm _ rfl (.tmp 46) (.tmp 54) 66 rfl w.heap.size 99 i0 (.agg #[.slice none 0 0,.bool false,.slice none 0 0,.bool false,.slice none 0 0]) 5 88 Try.underlying66 hi0 hz0 hz1 hz2 rfl (by decide) v3 M xs (by rfl) HXA.out ⟨wD.heap.size,0,none⟩ 1 1 [.slice (some ⟨gU,0,none⟩) S.n S.n,.bool qm,.slice qa ql qk,.bool qp,.slice qb qi qj] (by rfl) rfl HNS.out (by simp [Value.oneCell']) (by unfold maxLen; omega) (by omega) hNW HXB.out HNU.out HZU.out ?_
     intro v9 w9 hown hgrow hat hcalm
     have hgrow0:=hgrow
     have hB9:Below w.heap.size w w9:=(hB2.trans (hBA.mono hB2.size)).grown hgrow (by omega) (fun k hk=>(HX1'.out.lt k hk).1)
     have HR9:Hid (RowsC w9 w.heap.size v9 (S.all (bRows st.floor st.top (j + 1)))):=hide (by have e:=RowsC.alone (z:=-1) (b:=(-bz)) (by rw [HM.out]; exact HXA.out) HXB.out HXC.out (by rw [HM.out]; exact hown) hgrow hat hcalm (fun e=>by have:=HG5.out gU e; omega) HUA.out HQA.out; rw [bRows,HE0.out,← List.append_assoc]; exact e)
     obtain ⟨ya,yk,rfl⟩:=own_slice hown
     clear hown hgrow hat hcalm
     have hg5ne:∀ g,v3.ownBlock = some g → g5 ≠ g:=fun g e=>by have:=HG5.out g e; omega
     have hkc:∀ i u,WA.cell? ⟨g5,i,none⟩ = some u → w9.cell? ⟨g5,i,none⟩ = some u:=fun i u hu=>hgrow0.cell hu (fun e=>hg5ne g5 e.symm rfl)
     refine hK.out _ _ ⟨hkc 1 _ hS.1,hkc 2 _ hS.2.1,hB9⟩ (fun hS=>?_)
     clear hK K hkc hgrow0 hg5ne HXA HXB HXC HNU HNS HUA HQA HX1' HX2 HX3
     try simp only [Act.put,sB,sC,sD]
     refine tkH 10 ⟨some 3,.assign (.tmp 55),66,"lia.go:117",#[eD 9,eC 9,eP 0,eP 1,eP 2,eP 3,eP 4,eP 5,eP 6,eP 7,eP 8,eP 9],none⟩ hS ?_
     try simp only [Act.put,sB,sC,sD]
     refine wpAnyH_done (by kernel_rfl) ?_ _
     clear hS
     go_wp2_with fail
     go_roundg (gk - 1)
     case measure=>omega
     case rel=>exact ⟨j + 1,_,rfl,by omega,by go_num,hB9,HR9⟩
end Go.Proofs.Ytphjffbldhhdiaa
