/- collatorlaw18.speaks: by its contract. -/
import Derived.Test.YtphjffbldhhdiaaLiSpk
import Derived.Test.YtphjffbldhhdiaaLiSolve
namespace Go.Proofs.Ytphjffbldhhdiaa
open Go.RowKit

theorem wpAnyH_by {P:Program} {md:Region.Mode} {ops:Array Oper} {Q:Exit → Act → World → Prop} {S:World → Prop} {fuel:Nat} {listed:Array Bool} {a:Act} {w:World}
  (h:∀ G:Nat → Array Bool → Act → World → Prop,(∀ f l a w,G f l a w = wpAnyH P md ops Q S f l a w) → G fuel listed a w):wpAnyH P md ops Q S fuel listed a w:=h (wpAnyH P md ops Q S) (fun _ _ _ _=>rfl)
set_option maxHeartbeats 1600000 in
theorem spk_solve {gR gA gB:Nat} {an bn nn mn:Bool} {aa ba na ma:Option Addr} {al ak bl bk nl nk ml mk:Nat} (w:World)
  (bR:Blk w gR 48 #[.slice (some ⟨gA,0,none⟩) 1 1,.bool bn,.slice ba bl bk,.slice (some ⟨gB,0,none⟩) 1 1,.bool mn,.slice ma ml mk]) (bA:Blk w gA 38 #[.bool an,.slice aa al ak]) (bB:Blk w gB 38 #[.bool nn,.slice na nl nk])
  (hA:IntV w (.agg #[.bool an,.slice aa al ak]) 2) (hO:IntV w (.agg #[.bool bn,.slice ba bl bk]) 1) (hN:IntV w (.agg #[.bool nn,.slice na nl nk]) (-2)) (hM:IntV w (.agg #[.bool mn,.slice ma ml mk]) (-1)) :
  Calls Try.prog 10 #[.int .i64 1,.slice (some ⟨gR,0,none⟩) 2 2,.int .i64 9] w fun e w'=>Below w.heap.size w w' ∧ ∃ (u:Option Addr) (k:Nat) (y:Int),e = .returned (.tuple #[.agg #[.int .i64 2,.slice none 0 0,.slice u 2 k,.int .i64 y],.int .i64 0]):=by
 have l1:∀ z:Int,z.natAbs < BB → len z ≤ 1:=fun z h=>dg_len BB2 (by simpa using h)
 obtain ⟨RA,rfl,rfl,rfl,rfl,okA,fA,zA,sA⟩:=hA.raw (N:=1) (l1 2 (by decide)) (by decide)
 obtain ⟨RO,rfl,rfl,rfl,rfl,okO,fO,zO,sO⟩:=hO.raw (N:=1) (l1 1 (by decide)) (by decide)
 obtain ⟨RN,rfl,rfl,rfl,rfl,okN,fN,zN,sN⟩:=hN.raw (N:=1) (l1 (-2) (by decide)) (by decide)
 obtain ⟨RM,rfl,rfl,rfl,rfl,okM,fM,zM,sM⟩:=hM.raw (N:=1) (l1 (-1) (by decide)) (by decide)
 have hx:IRowsAt w (some ⟨gR,0,none⟩) [⟨some ⟨gA,0,none⟩,1,[RA],RO⟩,⟨some ⟨gB,0,none⟩,1,[RN],RM⟩]:=fun _=>⟨gR,0,rfl,fun i hi=>by
  match i,hi with
  | 0,_=>exact ⟨bR.cell 0,⟨Nat.le_refl _,fun e=>by cases e⟩,fun _=>⟨gA,0,rfl,fun k hk=>by
    obtain rfl:k = 0:=by simpa using hk
    exact ⟨bA.cell 0,bA.cell 1,okA⟩⟩,bR.cell 1,bR.cell 2,okO⟩
  | 1,_=>exact ⟨bR.cell 3,⟨Nat.le_refl _,fun e=>by cases e⟩,fun _=>⟨gB,0,rfl,fun k hk=>by
    obtain rfl:k = 0:=by simpa using hk
    exact ⟨bB.cell 0,bB.cell 1,okN⟩⟩,bR.cell 4,bR.cell 5,okM⟩⟩
 have hr:rightI 1 [⟨some ⟨gA,0,none⟩,1,[RA],RO⟩,⟨some ⟨gB,0,none⟩,1,[RN],RM⟩] = true:=by simp [rightI,LRow.right,fA,fO,fN,fM]
 have hs:∀ r ∈ ([⟨some ⟨gA,0,none⟩,1,[RA],RO⟩,⟨some ⟨gB,0,none⟩,1,[RN],RM⟩]:List LRow),r.sz 1:=fun r hr=>by
  simp only [List.mem_cons,List.not_mem_nil,or_false] at hr
  rcases hr with rfl | rfl
  ·exact ⟨sO,fun R hR=>by simp only [List.mem_cons,List.not_mem_nil,or_false] at hR; rw [hR]; exact sA⟩
  ·exact ⟨sM,fun R hR=>by simp only [List.mem_cons,List.not_mem_nil,or_false] at hR; rw [hR]; exact sN⟩
 generalize hrs:([⟨some ⟨gA,0,none⟩,1,[RA],RO⟩,⟨some ⟨gB,0,none⟩,1,[RN],RM⟩]:List LRow) = rs at hx hr hs
 have hl:rs.length = 2:=by rw [← hrs]; rfl
 have hsz:=isys_size hr hs
 have hfair:LFair (isysOf 1 rs):=⟨by show 1 ≤ 4; decide,by show rs.length ≤ 40; omega,⟨hsz.1,fun i hi=>Nat.le_trans (hsz.2 i hi) (by decide)⟩⟩
 have a0:(isysOf 1 rs).A 0 0 = 2:=by rw [← hrs,← zA]; rfl
 have a1:(isysOf 1 rs).A 1 0 = -2:=by rw [← hrs,← zN]; rfl
 have m0:(isysOf 1 rs).most 0 = 1:=by rw [← hrs,← zO]; rfl
 have m1:(isysOf 1 rs).most 1 = -1:=by rw [← hrs,← zM]; rfl
 have h:=lsolve_any 1 (some ⟨gR,0,none⟩) 2 rs 9 w hx (by omega) (fun r hr=>by rw [← hrs] at hr; simp only [List.mem_cons,List.not_mem_nil,or_false] at hr; rcases hr with rfl | rfl <;> (show 1 ≤ 1000000; decide)) (fun _=>hfair) (by decide)
 rw [hl] at h
 refine h.mono ?_
 rintro e w' ⟨hb,⟨h1,_⟩ | ⟨_,v,rfl,t,j,hrun,h1⟩⟩
 ·rw [hr] at h1; cases h1
 ·refine ⟨hb,?_⟩
  have hrun':LRun (isysOf 1 rs) t j:=hrun
  rcases h1 with ⟨z,g,hf,_,_,rfl,_⟩ | ⟨nd,u,hf,_,ho,rfl⟩ | ⟨hj,rfl⟩
  ·exact (spk_nosat rfl hl a0 a1 m0 m1 hf).elim
  ·have h2:(reasL (isysOf 1 rs).m nd).length = 2:=spk_two rfl hl a0 a1 m0 m1 hrun' hf
   obtain ⟨ua,uk,rfl⟩:=own_slice ho
   have h3:(reasL (isysOf (Int.toNat 1) rs).m nd).length = 2:=h2
   rw [h3]
   exact ⟨ua,uk,_,rfl⟩
  ·have:=spk_short rfl hl a0 a1 m0 m1 hrun'
   omega
theorem new_blk (w:World) (cs:Array Value) (t:TypeId):∃ wA g,Hid (w.alloc (.cells cs t) = wA) ∧ Hid (w.heap.size = g) ∧ Blk wA g t cs ∧ Below w.heap.size w wA:=⟨_,_,hide rfl,hide rfl,Blk.new _ _ _,(Below.refl _ _).alloc (Nat.le_refl _) _⟩
abbrev spT (an:Bool) (aa:Option Addr) (al ak:Nat) (bn:Bool) (ba:Option Addr) (bl bk g1 g2:Nat) (v3 v7 v9 v11 v13 v14 v16 v17 v18 v19 v20 v21:Value):Array Value:=#[.bool false,.pointer (some ⟨g1,0,none⟩),.pointer (some ⟨g2,0,none⟩),v3,undef,.agg #[.bool an,.slice aa al ak],.agg #[.bool bn,.slice ba bl bk],v7,.agg #[.bool an,.slice aa al ak],v9,.agg #[.bool bn,.slice ba bl bk],v11,.agg #[.bool an,.slice aa al ak],v13,v14,.agg #[.bool bn,.slice ba bl bk],v16,v17,v18,v19,v20,v21,undef,undef,undef,undef,undef,undef,undef,undef,undef,undef,undef,undef,undef]
set_option maxRecDepth 100000 in
set_option maxHeartbeats 12800000 in
theorem ispeaks_any (w:World):Calls Try.prog 8 #[] w fun e w'=>e = .returned (.bool true) ∧ Below w.heap.size w w':=by
 go_enter Try.func8,Try.ntmps8
 go_wp2_with fail
 refine (Of_any 2 w (by decide) (by decide)).mono ?_
 rintro e w1 ⟨r1,rfl,h1,hb1⟩
 obtain ⟨an,aa,al,ak,rfl⟩:=h1.form
 go_wp2_with fail
 refine (Of_any 1 w1 (by decide) (by decide)).mono ?_
 rintro e w2 ⟨r2,rfl,h2,hb2⟩
 obtain ⟨bn,ba,bl,bk,rfl⟩:=h2.form
 replace h1:=h1.below hb2 (Nat.le_refl _)
 have sb2:=hb1.trans (hb2.mono hb1.size)
 obtain ⟨W3,hW3⟩:∃ W3,w2.alloc (.cells #[.bool an,.slice aa al ak] 38) = W3:=⟨_,rfl⟩
 obtain ⟨W,hW⟩:∃ W,W3.alloc (.cells #[.bool bn,.slice ba bl bk] 38) = W:=⟨_,rfl⟩
 obtain ⟨g1,hg1⟩:∃ g,w2.heap.size = g:=⟨_,rfl⟩
 obtain ⟨g2,hg2⟩:∃ g,W3.heap.size = g:=⟨_,rfl⟩
 have s3:Below w2.heap.size w2 W3:=by rw [← hW3]; exact (Below.refl _ _).alloc (Nat.le_refl _) _
 have s4:Below W3.heap.size W3 W:=by rw [← hW]; exact (Below.refl _ _).alloc (Nat.le_refl _) _
 have b1:Blk W g1 38 #[.bool an,.slice aa al ak]:=by
  have b:Blk W3 g1 38 #[.bool an,.slice aa al ak]:=by rw [← hW3,← hg1]; exact Blk.new _ _ _
  exact b.below s4 b.lt
 have b2:Blk W g2 38 #[.bool bn,.slice ba bl bk]:=by rw [← hW,← hg2]; exact Blk.new _ _ _
 have s34:Below w2.heap.size w2 W:=s3.trans (s4.mono s3.size)
 have hA:IntV W (.agg #[.bool an,.slice aa al ak]) 2:=h1.below s34 (Nat.le_refl _)
 have hO:IntV W (.agg #[.bool bn,.slice ba bl bk]) 1:=h2.below s34 (Nat.le_refl _)
 have sb:Below w.heap.size w W:=sb2.trans (s34.mono sb2.size)
 have HW3:=hide hW3
 have HW:=hide hW
 have HG1:=hide hg1
 have HG2:Hid (g1 + 1 = g2):=hide (by rw [← hg2,← hW3,← hg1]; simp)
 obtain ⟨k0,k1,-⟩:=b1.c2
 obtain ⟨k2,k3,-⟩:=b2.c2
 clear hW3 hW hg1 hg2 s3 s4 s34 h1 h2 sb2 hb1 hb2
 go_upto_region 2 with (fail)
 rw [HW3.out,HW.out,HG1.out,HG2.out]
 clear HW3 HW HG1 HG2
 go_cut [3,4] from 7 to 21 (fun v3 v4 wc=>Below w.heap.size w wc ∧ v4 = .int .i64 0 ∧ ∃ g3 u x y,v3 = .pointer (some ⟨g3,0,none⟩) ∧ Blk wc g3 28 #[.int .i64 2,.slice none 0 0,.slice u 2 x,.int .i64 y])
 case first=>
  refine wp_region_held_drew (S:=fun w'=>w'.cell? ⟨g1,0,none⟩ = some (.bool an) ∧ w'.cell? ⟨g1,1,none⟩ = some (.slice aa al ak) ∧ w'.cell? ⟨g2,0,none⟩ = some (.bool bn) ∧ w'.cell? ⟨g2,1,none⟩ = some (.slice ba bl bk) ∧ Below W.heap.size W w') (by kernel_rfl) ⟨k0,k1,k2,k3,(Below.refl _ _).drew⟩ (fun hS=>?_)
  refine wpAnyH_by (fun G hG=>?_)
  have n1_5_6_8_10_11_15:∀ (w':World) (gA:Nat) (nn:Bool) (na:Option Addr) (nl:Nat) (nk:Nat) (gB:Nat) (mn:Bool) (ma:Option Addr) (ml:Nat) (mk:Nat) (gR:Nat) (xu:Option Addr) (xk:Nat) (xy:Int) (g3:Nat) (hS:w'.cell? ⟨g1,0,none⟩ = some (.bool an) ∧ w'.cell? ⟨g1,1,none⟩ = some (.slice aa al ak) ∧ w'.cell? ⟨g2,0,none⟩ = some (.bool bn) ∧ w'.cell? ⟨g2,1,none⟩ = some (.slice ba bl bk) ∧ Below W.heap.size W w') (b3:Blk w' g3 28 #[.int .i64 0,.slice none 0 0,.slice none 0 0,.int .i64 0]) (hg3:W.heap.size ≤ g3),G 2 #[true,true,true,true,true,true,true,true,true,true,true,true,true,true,true,true,false,false] { tmps:=spT an aa al ak bn ba bl bk g1 g2 (.pointer (some ⟨g3,0,none⟩)) (.tuple #[.agg #[.int .i64 2,.slice none 0 0,.slice xu 2 xk,.int .i64 xy],.int .i64 0]) (.slice (some ⟨gA,0,none⟩) 1 1) (.agg #[.slice (some ⟨gA,0,none⟩) 1 1,.bool bn,.slice ba bl bk]) (.agg #[.bool nn,.slice na nl nk]) (.slice (some ⟨gB,0,none⟩) 1 1) (.agg #[.bool mn,.slice ma ml mk]) (.agg #[.slice (some ⟨gB,0,none⟩) 1 1,.bool mn,.slice ma ml mk]) (.slice (some ⟨gR,0,none⟩) 2 2) (.tuple #[.agg #[.int .i64 2,.slice none 0 0,.slice xu 2 xk,.int .i64 xy],.int .i64 0]) (.agg #[.int .i64 2,.slice none 0 0,.slice xu 2 xk,.int .i64 xy]) (.int .i64 0),defers:=[] } w':=by
   intro w' gA nn na nl nk gB mn ma ml mk gR xu xk xy g3 hS b3 hg3
   rw [hG]
   refine wpAnyH_ready (rs:=[16]) (by kernel_rfl) (by simp) ?_
   refine AllReadyH.cons (o:=⟨none,.store 28 (.tmp 3) (.tmp 20),0,"law.go:16",#[eD 15,eD 13,eC 11,eP 0,eP 1,eP 2,eP 3,eP 4,eP 5,eP 6,eP 7,eP 8,eP 9,eP 10,eP 11,eP 12,eP 13,{ on:=14,ground:=Ground.textOnly Departure.lateStores },eP 15],none⟩) rfl (fun K hK=>?_) AllReadyH.nil
   obtain ⟨z0,z1,z2,z3,-⟩:=b3.c4
   have f0:=b3.frozen 0
   have f1:=b3.frozen 1
   have f2:=b3.frozen 2
   have f3:=b3.frozen 3
   obtain ⟨WF,hWF⟩:∃ WF,putL g3 w' 0 [.int .i64 2,.slice none 0 0,.slice xu 2 xk,.int .i64 xy] = WF:=⟨_,rfl⟩
   have h3g:W.heap.size ≤ g3:=hg3
   have bF:Blk WF g3 28 #[.int .i64 2,.slice none 0 0,.slice xu 2 xk,.int .i64 xy]:=by rw [← hWF]; exact (((b3.set_ 0 _).set_ 1 _).set_ 2 _).set_ 3 _
   have hbF:Below W.heap.size W WF:=by rw [← hWF]; exact below_putL hS.2.2.2.2 h3g
   have hSF:WF.cell? ⟨g1,0,none⟩ = some (.bool an) ∧ WF.cell? ⟨g1,1,none⟩ = some (.slice aa al ak) ∧ WF.cell? ⟨g2,0,none⟩ = some (.bool bn) ∧ WF.cell? ⟨g2,1,none⟩ = some (.slice ba bl bk) ∧ Below W.heap.size W WF:=⟨cellB k0 hbF (Nat.le_refl _),cellB k1 hbF (Nat.le_refl _),cellB k2 hbF (Nat.le_refl _),cellB k3 hbF (Nat.le_refl _),hbF⟩
   simp only [putL] at hWF
   have HWF:=hide hWF
   clear hWF
   go_simp
   refine hK.out _ _ (by rw [HWF.out]; exact hSF) (fun hS=>?_)
   clear hK K z0 z1 z2 z3 f0 f1 f2 f3 b3
   ((try simp only [Act.put]); try simp only [List.setIfInBounds_toArray,List.set_cons_zero,List.set_cons_succ])
   rw [HWF.out] at hS ⊢
   clear HWF
   refine tkH 17 ⟨some 4,.assign (.tmp 21),29,"law.go:16",#[eD 14,eC 16,eP 0,eP 1,eP 2,eP 3,eP 4,eP 5,eP 6,eP 7,eP 8,eP 9,eP 10,eP 11,eP 12,eP 13,eP 14,eP 15,eP 16],none⟩ hS ?_
   try simp only [Act.put,sB,sC,sD]
   refine wpAnyH_done (by kernel_rfl) ?_ _
   go_wp2_with fail
   go_meet
   exact ⟨sb.trans (hbF.mono sb.size),rfl,g3,xu,xk,xy,rfl,bF⟩
  have n1_5_6_8_10_11:∀ (w':World) (gA:Nat) (nn:Bool) (na:Option Addr) (nl:Nat) (nk:Nat) (gB:Nat) (mn:Bool) (ma:Option Addr) (ml:Nat) (mk:Nat) (gR:Nat) (xu:Option Addr) (xk:Nat) (xy:Int) (hS:w'.cell? ⟨g1,0,none⟩ = some (.bool an) ∧ w'.cell? ⟨g1,1,none⟩ = some (.slice aa al ak) ∧ w'.cell? ⟨g2,0,none⟩ = some (.bool bn) ∧ w'.cell? ⟨g2,1,none⟩ = some (.slice ba bl bk) ∧ Below W.heap.size W w'),G 3 #[true,true,true,true,true,true,true,true,true,true,true,true,true,true,true,false,false,false] { tmps:=spT an aa al ak bn ba bl bk g1 g2 undef (.tuple #[.agg #[.int .i64 2,.slice none 0 0,.slice xu 2 xk,.int .i64 xy],.int .i64 0]) (.slice (some ⟨gA,0,none⟩) 1 1) (.agg #[.slice (some ⟨gA,0,none⟩) 1 1,.bool bn,.slice ba bl bk]) (.agg #[.bool nn,.slice na nl nk]) (.slice (some ⟨gB,0,none⟩) 1 1) (.agg #[.bool mn,.slice ma ml mk]) (.agg #[.slice (some ⟨gB,0,none⟩) 1 1,.bool mn,.slice ma ml mk]) (.slice (some ⟨gR,0,none⟩) 2 2) (.tuple #[.agg #[.int .i64 2,.slice none 0 0,.slice xu 2 xk,.int .i64 xy],.int .i64 0]) (.agg #[.int .i64 2,.slice none 0 0,.slice xu 2 xk,.int .i64 xy]) (.int .i64 0),defers:=[] } w':=by
   intro w' gA nn na nl nk gB mn ma ml mk gR xu xk xy hS 
   rw [hG]
   refine wpAnyH_ready (rs:=[15]) (by kernel_rfl) (by simp) ?_
   refine AllReadyH.cons (o:=⟨some 3,.alloc 28,0,"law.go:16",#[],none⟩) rfl (fun K hK=>?_) AllReadyH.nil
   ·have hg3:W.heap.size ≤ w'.heap.size:=hS.2.2.2.2.size
    obtain ⟨wA,g3,HWA,HG3,b3,hb1⟩:=new_blk w' #[.int .i64 0,.slice none 0 0,.slice none 0 0,.int .i64 0] 28
    go_simp
    try (rw [HWA.out])
    try (rw [HG3.out])
    refine hK.out _ _ (kp4 hS hb1) (fun hS=>?_)
    rw [HG3.out] at hg3
    clear hK K HWA HG3
    ((try simp only [Act.put]); try simp only [List.setIfInBounds_toArray,List.set_cons_zero,List.set_cons_succ])
    rw [← hG]
    exact n1_5_6_8_10_11_15 _ gA nn na nl nk gB mn ma ml mk gR xu xk xy g3 hS b3 hg3
  have n1_5_6_8_10_15:∀ (w':World) (gA:Nat) (nn:Bool) (na:Option Addr) (nl:Nat) (nk:Nat) (gB:Nat) (mn:Bool) (ma:Option Addr) (ml:Nat) (mk:Nat) (gR:Nat) (g3:Nat) (hS:w'.cell? ⟨g1,0,none⟩ = some (.bool an) ∧ w'.cell? ⟨g1,1,none⟩ = some (.slice aa al ak) ∧ w'.cell? ⟨g2,0,none⟩ = some (.bool bn) ∧ w'.cell? ⟨g2,1,none⟩ = some (.slice ba bl bk) ∧ Below W.heap.size W w') (bA:Blk w' gA 38 #[.bool an,.slice aa al ak]) (hN:IntV w' (.agg #[.bool nn,.slice na nl nk]) (-2)) (bB:Blk w' gB 38 #[.bool nn,.slice na nl nk]) (hM:IntV w' (.agg #[.bool mn,.slice ma ml mk]) (-1)) (bR:Blk w' gR 48 #[.slice (some ⟨gA,0,none⟩) 1 1,.bool bn,.slice ba bl bk,.slice (some ⟨gB,0,none⟩) 1 1,.bool mn,.slice ma ml mk]) (b3:Blk w' g3 28 #[.int .i64 0,.slice none 0 0,.slice none 0 0,.int .i64 0]) (hg3:W.heap.size ≤ g3),G 6 #[true,true,true,true,true,true,true,true,true,true,true,false,false,false,false,true,false,false] { tmps:=spT an aa al ak bn ba bl bk g1 g2 (.pointer (some ⟨g3,0,none⟩)) undef (.slice (some ⟨gA,0,none⟩) 1 1) (.agg #[.slice (some ⟨gA,0,none⟩) 1 1,.bool bn,.slice ba bl bk]) (.agg #[.bool nn,.slice na nl nk]) (.slice (some ⟨gB,0,none⟩) 1 1) (.agg #[.bool mn,.slice ma ml mk]) (.agg #[.slice (some ⟨gB,0,none⟩) 1 1,.bool mn,.slice ma ml mk]) (.slice (some ⟨gR,0,none⟩) 2 2) undef undef undef,defers:=[] } w':=by
   intro w' gA nn na nl nk gB mn ma ml mk gR g3 hS bA hN bB hM bR b3 hg3
   rw [hG]
   refine wpAnyH_ready (rs:=[11]) (by kernel_rfl) (by simp) ?_
   refine AllReadyH.cons (o:=⟨some 19,.call { callee:=.value (.func 10),args:=#[.const (.int .i64 1),.tmp 18,.const (.int .i64 9)],argTypes:=#[3,22,3] },30,"law.go:16",#[eD 10,eC 8],none⟩) rfl (fun K hK=>?_) AllReadyH.nil
   ·go_simp
    (go_at_call 10; (with_reducible refine (spk_solve _ bR bA bB (hA.below hS.2.2.2.2 (Nat.le_refl _)) (hO.below hS.2.2.2.2 (Nat.le_refl _)) hN hM).mono ?_); rintro e wE ⟨hb1,xu,xk,xy,rfl⟩)
    go_wp2_with fail
    refine hK.out _ _ (kp4 hS hb1) (fun hS=>?_)
    clear hK K
    replace b3:=b3.below hb1 b3.lt
    ((try simp only [Act.put]); try simp only [List.setIfInBounds_toArray,List.set_cons_zero,List.set_cons_succ])
    refine tkH 12 ⟨some 7,.move (.tmp 19),30,"law.go:16",#[eD 11],none⟩ hS ?_
    try simp only [Act.put,sB,sC,sD]
    refine tkH 13 ⟨some 20,.extract (.tmp 7) 0,28,"law.go:16",#[eD 12],none⟩ hS ?_
    try simp only [Act.put,sB,sC,sD]
    refine tkH 14 ⟨some 21,.extract (.tmp 7) 1,29,"law.go:16",#[eD 12,{ on:=16,ground:=Ground.gcOnly Departure.lateStores }],none⟩ hS ?_
    try simp only [Act.put,sB,sC,sD]
    rw [← hG]
    exact n1_5_6_8_10_11_15 _ gA nn na nl nk gB mn ma ml mk gR xu xk xy g3 hS b3 hg3
  have n1_5_6_8_10:∀ (w':World) (gA:Nat) (nn:Bool) (na:Option Addr) (nl:Nat) (nk:Nat) (gB:Nat) (mn:Bool) (ma:Option Addr) (ml:Nat) (mk:Nat) (gR:Nat) (hS:w'.cell? ⟨g1,0,none⟩ = some (.bool an) ∧ w'.cell? ⟨g1,1,none⟩ = some (.slice aa al ak) ∧ w'.cell? ⟨g2,0,none⟩ = some (.bool bn) ∧ w'.cell? ⟨g2,1,none⟩ = some (.slice ba bl bk) ∧ Below W.heap.size W w') (bA:Blk w' gA 38 #[.bool an,.slice aa al ak]) (hN:IntV w' (.agg #[.bool nn,.slice na nl nk]) (-2)) (bB:Blk w' gB 38 #[.bool nn,.slice na nl nk]) (hM:IntV w' (.agg #[.bool mn,.slice ma ml mk]) (-1)) (bR:Blk w' gR 48 #[.slice (some ⟨gA,0,none⟩) 1 1,.bool bn,.slice ba bl bk,.slice (some ⟨gB,0,none⟩) 1 1,.bool mn,.slice ma ml mk]),G 7 #[true,true,true,true,true,true,true,true,true,true,true,false,false,false,false,false,false,false] { tmps:=spT an aa al ak bn ba bl bk g1 g2 undef undef (.slice (some ⟨gA,0,none⟩) 1 1) (.agg #[.slice (some ⟨gA,0,none⟩) 1 1,.bool bn,.slice ba bl bk]) (.agg #[.bool nn,.slice na nl nk]) (.slice (some ⟨gB,0,none⟩) 1 1) (.agg #[.bool mn,.slice ma ml mk]) (.agg #[.slice (some ⟨gB,0,none⟩) 1 1,.bool mn,.slice ma ml mk]) (.slice (some ⟨gR,0,none⟩) 2 2) undef undef undef,defers:=[] } w':=by
   intro w' gA nn na nl nk gB mn ma ml mk gR hS bA hN bB hM bR
   rw [hG]
   refine wpAnyH_ready (rs:=[11,15]) (by kernel_rfl) (by simp) ?_
   refine AllReadyH.cons (o:=⟨some 19,.call { callee:=.value (.func 10),args:=#[.const (.int .i64 1),.tmp 18,.const (.int .i64 9)],argTypes:=#[3,22,3] },30,"law.go:16",#[eD 10,eC 8],none⟩) rfl (fun K hK=>?_) (AllReadyH.cons (o:=⟨some 3,.alloc 28,0,"law.go:16",#[],none⟩) rfl (fun K hK=>?_) AllReadyH.nil)
   ·go_simp
    (go_at_call 10; (with_reducible refine (spk_solve _ bR bA bB (hA.below hS.2.2.2.2 (Nat.le_refl _)) (hO.below hS.2.2.2.2 (Nat.le_refl _)) hN hM).mono ?_); rintro e wE ⟨hb1,xu,xk,xy,rfl⟩)
    go_wp2_with fail
    refine hK.out _ _ (kp4 hS hb1) (fun hS=>?_)
    clear hK K
    ((try simp only [Act.put]); try simp only [List.setIfInBounds_toArray,List.set_cons_zero,List.set_cons_succ])
    refine tkH 12 ⟨some 7,.move (.tmp 19),30,"law.go:16",#[eD 11],none⟩ hS ?_
    try simp only [Act.put,sB,sC,sD]
    refine tkH 13 ⟨some 20,.extract (.tmp 7) 0,28,"law.go:16",#[eD 12],none⟩ hS ?_
    try simp only [Act.put,sB,sC,sD]
    refine tkH 14 ⟨some 21,.extract (.tmp 7) 1,29,"law.go:16",#[eD 12,{ on:=16,ground:=Ground.gcOnly Departure.lateStores }],none⟩ hS ?_
    try simp only [Act.put,sB,sC,sD]
    rw [← hG]
    exact n1_5_6_8_10_11 _ gA nn na nl nk gB mn ma ml mk gR xu xk xy hS 
   ·have hg3:W.heap.size ≤ w'.heap.size:=hS.2.2.2.2.size
    obtain ⟨wA,g3,HWA,HG3,b3,hb1⟩:=new_blk w' #[.int .i64 0,.slice none 0 0,.slice none 0 0,.int .i64 0] 28
    go_simp
    try (rw [HWA.out])
    try (rw [HG3.out])
    refine hK.out _ _ (kp4 hS hb1) (fun hS=>?_)
    rw [HG3.out] at hg3
    clear hK K HWA HG3
    replace bA:=bA.below hb1 bA.lt
    replace hN:=hN.below hb1 (Nat.le_refl _)
    replace bB:=bB.below hb1 bB.lt
    replace hM:=hM.below hb1 (Nat.le_refl _)
    replace bR:=bR.below hb1 bR.lt
    ((try simp only [Act.put]); try simp only [List.setIfInBounds_toArray,List.set_cons_zero,List.set_cons_succ])
    rw [← hG]
    exact n1_5_6_8_10_15 _ gA nn na nl nk gB mn ma ml mk gR g3 hS bA hN bB hM bR b3 hg3
  have n1_5_6_8_15:∀ (w':World) (gA:Nat) (nn:Bool) (na:Option Addr) (nl:Nat) (nk:Nat) (gB:Nat) (mn:Bool) (ma:Option Addr) (ml:Nat) (mk:Nat) (g3:Nat) (hS:w'.cell? ⟨g1,0,none⟩ = some (.bool an) ∧ w'.cell? ⟨g1,1,none⟩ = some (.slice aa al ak) ∧ w'.cell? ⟨g2,0,none⟩ = some (.bool bn) ∧ w'.cell? ⟨g2,1,none⟩ = some (.slice ba bl bk) ∧ Below W.heap.size W w') (bA:Blk w' gA 38 #[.bool an,.slice aa al ak]) (hN:IntV w' (.agg #[.bool nn,.slice na nl nk]) (-2)) (bB:Blk w' gB 38 #[.bool nn,.slice na nl nk]) (hM:IntV w' (.agg #[.bool mn,.slice ma ml mk]) (-1)) (b3:Blk w' g3 28 #[.int .i64 0,.slice none 0 0,.slice none 0 0,.int .i64 0]) (hg3:W.heap.size ≤ g3),G 7 #[true,true,true,true,true,true,true,true,true,true,false,false,false,false,false,true,false,false] { tmps:=spT an aa al ak bn ba bl bk g1 g2 (.pointer (some ⟨g3,0,none⟩)) undef (.slice (some ⟨gA,0,none⟩) 1 1) (.agg #[.slice (some ⟨gA,0,none⟩) 1 1,.bool bn,.slice ba bl bk]) (.agg #[.bool nn,.slice na nl nk]) (.slice (some ⟨gB,0,none⟩) 1 1) (.agg #[.bool mn,.slice ma ml mk]) (.agg #[.slice (some ⟨gB,0,none⟩) 1 1,.bool mn,.slice ma ml mk]) undef undef undef undef,defers:=[] } w':=by
   intro w' gA nn na nl nk gB mn ma ml mk g3 hS bA hN bB hM b3 hg3
   rw [hG]
   refine wpAnyH_ready (rs:=[10]) (by kernel_rfl) (by simp) ?_
   refine AllReadyH.cons (o:=⟨some 18,.buildSlice 22 2 #[(0,.tmp 11),(1,.tmp 17)],22,"law.go:16",#[eD 3,eD 9],none⟩) rfl (fun K hK=>?_) AllReadyH.nil
   ·obtain ⟨wA,gR,HWA,HGR,bR,hb1⟩:=new_blk w' #[.slice (some ⟨gA,0,none⟩) 1 1,.bool bn,.slice ba bl bk,.slice (some ⟨gB,0,none⟩) 1 1,.bool mn,.slice ma ml mk] 48
    go_simp
    try (rw [HWA.out])
    try (rw [HGR.out])
    refine hK.out _ _ (kp4 hS hb1) (fun hS=>?_)
    clear hK K HWA HGR
    replace bA:=bA.below hb1 bA.lt
    replace hN:=hN.below hb1 (Nat.le_refl _)
    replace bB:=bB.below hb1 bB.lt
    replace hM:=hM.below hb1 (Nat.le_refl _)
    replace b3:=b3.below hb1 b3.lt
    ((try simp only [Act.put]); try simp only [List.setIfInBounds_toArray,List.set_cons_zero,List.set_cons_succ])
    rw [← hG]
    exact n1_5_6_8_10_15 _ gA nn na nl nk gB mn ma ml mk gR g3 hS bA hN bB hM bR b3 hg3
  have n1_5_6_8:∀ (w':World) (gA:Nat) (nn:Bool) (na:Option Addr) (nl:Nat) (nk:Nat) (gB:Nat) (mn:Bool) (ma:Option Addr) (ml:Nat) (mk:Nat) (hS:w'.cell? ⟨g1,0,none⟩ = some (.bool an) ∧ w'.cell? ⟨g1,1,none⟩ = some (.slice aa al ak) ∧ w'.cell? ⟨g2,0,none⟩ = some (.bool bn) ∧ w'.cell? ⟨g2,1,none⟩ = some (.slice ba bl bk) ∧ Below W.heap.size W w') (bA:Blk w' gA 38 #[.bool an,.slice aa al ak]) (hN:IntV w' (.agg #[.bool nn,.slice na nl nk]) (-2)) (bB:Blk w' gB 38 #[.bool nn,.slice na nl nk]) (hM:IntV w' (.agg #[.bool mn,.slice ma ml mk]) (-1)),G 8 #[true,true,true,true,true,true,true,true,true,true,false,false,false,false,false,false,false,false] { tmps:=spT an aa al ak bn ba bl bk g1 g2 undef undef (.slice (some ⟨gA,0,none⟩) 1 1) (.agg #[.slice (some ⟨gA,0,none⟩) 1 1,.bool bn,.slice ba bl bk]) (.agg #[.bool nn,.slice na nl nk]) (.slice (some ⟨gB,0,none⟩) 1 1) (.agg #[.bool mn,.slice ma ml mk]) (.agg #[.slice (some ⟨gB,0,none⟩) 1 1,.bool mn,.slice ma ml mk]) undef undef undef undef,defers:=[] } w':=by
   intro w' gA nn na nl nk gB mn ma ml mk hS bA hN bB hM
   rw [hG]
   refine wpAnyH_ready (rs:=[10,15]) (by kernel_rfl) (by simp) ?_
   refine AllReadyH.cons (o:=⟨some 18,.buildSlice 22 2 #[(0,.tmp 11),(1,.tmp 17)],22,"law.go:16",#[eD 3,eD 9],none⟩) rfl (fun K hK=>?_) (AllReadyH.cons (o:=⟨some 3,.alloc 28,0,"law.go:16",#[],none⟩) rfl (fun K hK=>?_) AllReadyH.nil)
   ·obtain ⟨wA,gR,HWA,HGR,bR,hb1⟩:=new_blk w' #[.slice (some ⟨gA,0,none⟩) 1 1,.bool bn,.slice ba bl bk,.slice (some ⟨gB,0,none⟩) 1 1,.bool mn,.slice ma ml mk] 48
    go_simp
    try (rw [HWA.out])
    try (rw [HGR.out])
    refine hK.out _ _ (kp4 hS hb1) (fun hS=>?_)
    clear hK K HWA HGR
    replace bA:=bA.below hb1 bA.lt
    replace hN:=hN.below hb1 (Nat.le_refl _)
    replace bB:=bB.below hb1 bB.lt
    replace hM:=hM.below hb1 (Nat.le_refl _)
    ((try simp only [Act.put]); try simp only [List.setIfInBounds_toArray,List.set_cons_zero,List.set_cons_succ])
    rw [← hG]
    exact n1_5_6_8_10 _ gA nn na nl nk gB mn ma ml mk gR hS bA hN bB hM bR
   ·have hg3:W.heap.size ≤ w'.heap.size:=hS.2.2.2.2.size
    obtain ⟨wA,g3,HWA,HG3,b3,hb1⟩:=new_blk w' #[.int .i64 0,.slice none 0 0,.slice none 0 0,.int .i64 0] 28
    go_simp
    try (rw [HWA.out])
    try (rw [HG3.out])
    refine hK.out _ _ (kp4 hS hb1) (fun hS=>?_)
    rw [HG3.out] at hg3
    clear hK K HWA HG3
    replace bA:=bA.below hb1 bA.lt
    replace hN:=hN.below hb1 (Nat.le_refl _)
    replace bB:=bB.below hb1 bB.lt
    replace hM:=hM.below hb1 (Nat.le_refl _)
    ((try simp only [Act.put]); try simp only [List.setIfInBounds_toArray,List.set_cons_zero,List.set_cons_succ])
    rw [← hG]
    exact n1_5_6_8_15 _ gA nn na nl nk gB mn ma ml mk g3 hS bA hN bB hM b3 hg3
  have n1_5_6_15:∀ (w':World) (gA:Nat) (nn:Bool) (na:Option Addr) (nl:Nat) (nk:Nat) (gB:Nat) (g3:Nat) (hS:w'.cell? ⟨g1,0,none⟩ = some (.bool an) ∧ w'.cell? ⟨g1,1,none⟩ = some (.slice aa al ak) ∧ w'.cell? ⟨g2,0,none⟩ = some (.bool bn) ∧ w'.cell? ⟨g2,1,none⟩ = some (.slice ba bl bk) ∧ Below W.heap.size W w') (bA:Blk w' gA 38 #[.bool an,.slice aa al ak]) (hN:IntV w' (.agg #[.bool nn,.slice na nl nk]) (-2)) (bB:Blk w' gB 38 #[.bool nn,.slice na nl nk]) (b3:Blk w' g3 28 #[.int .i64 0,.slice none 0 0,.slice none 0 0,.int .i64 0]) (hg3:W.heap.size ≤ g3),G 9 #[true,true,true,true,true,true,true,true,false,false,false,false,false,false,false,true,false,false] { tmps:=spT an aa al ak bn ba bl bk g1 g2 (.pointer (some ⟨g3,0,none⟩)) undef (.slice (some ⟨gA,0,none⟩) 1 1) (.agg #[.slice (some ⟨gA,0,none⟩) 1 1,.bool bn,.slice ba bl bk]) (.agg #[.bool nn,.slice na nl nk]) (.slice (some ⟨gB,0,none⟩) 1 1) undef undef undef undef undef undef,defers:=[] } w':=by
   intro w' gA nn na nl nk gB g3 hS bA hN bB b3 hg3
   rw [hG]
   refine wpAnyH_ready (rs:=[8]) (by kernel_rfl) (by simp) ?_
   refine AllReadyH.cons (o:=⟨some 16,.call { callee:=.value (.func 22),args:=#[.tmp 15],argTypes:=#[38] },38,"law.go:16",#[eD 7,eC 5],none⟩) rfl (fun K hK=>?_) AllReadyH.nil
   ·go_simp
    (go_at_call 22; (with_reducible refine (Neg_any _ (hO.below hS.2.2.2.2 (Nat.le_refl _)) (sm_small (by decide))).mono ?_); rintro e wM ⟨rM,rfl,hM,hb1⟩)
    obtain ⟨mn,ma,ml,mk,rfl⟩:=hM.form
    go_wp2_with fail
    refine hK.out _ _ (kp4 hS hb1) (fun hS=>?_)
    clear hK K
    replace bA:=bA.below hb1 bA.lt
    replace hN:=hN.below hb1 (Nat.le_refl _)
    replace bB:=bB.below hb1 bB.lt
    replace b3:=b3.below hb1 b3.lt
    ((try simp only [Act.put]); try simp only [List.setIfInBounds_toArray,List.set_cons_zero,List.set_cons_succ])
    refine tkH 9 ⟨some 17,.build 48 #[(0,.tmp 14),(1,.tmp 16)],48,"law.go:16",#[eD 6,eD 8],none⟩ hS ?_
    try simp only [Act.put,sB,sC,sD]
    rw [← hG]
    exact n1_5_6_8_15 _ gA nn na nl nk gB mn ma ml mk g3 hS bA hN bB hM b3 hg3
  have n1_5_6:∀ (w':World) (gA:Nat) (nn:Bool) (na:Option Addr) (nl:Nat) (nk:Nat) (gB:Nat) (hS:w'.cell? ⟨g1,0,none⟩ = some (.bool an) ∧ w'.cell? ⟨g1,1,none⟩ = some (.slice aa al ak) ∧ w'.cell? ⟨g2,0,none⟩ = some (.bool bn) ∧ w'.cell? ⟨g2,1,none⟩ = some (.slice ba bl bk) ∧ Below W.heap.size W w') (bA:Blk w' gA 38 #[.bool an,.slice aa al ak]) (hN:IntV w' (.agg #[.bool nn,.slice na nl nk]) (-2)) (bB:Blk w' gB 38 #[.bool nn,.slice na nl nk]),G 10 #[true,true,true,true,true,true,true,true,false,false,false,false,false,false,false,false,false,false] { tmps:=spT an aa al ak bn ba bl bk g1 g2 undef undef (.slice (some ⟨gA,0,none⟩) 1 1) (.agg #[.slice (some ⟨gA,0,none⟩) 1 1,.bool bn,.slice ba bl bk]) (.agg #[.bool nn,.slice na nl nk]) (.slice (some ⟨gB,0,none⟩) 1 1) undef undef undef undef undef undef,defers:=[] } w':=by
   intro w' gA nn na nl nk gB hS bA hN bB
   rw [hG]
   refine wpAnyH_ready (rs:=[8,15]) (by kernel_rfl) (by simp) ?_
   refine AllReadyH.cons (o:=⟨some 16,.call { callee:=.value (.func 22),args:=#[.tmp 15],argTypes:=#[38] },38,"law.go:16",#[eD 7,eC 5],none⟩) rfl (fun K hK=>?_) (AllReadyH.cons (o:=⟨some 3,.alloc 28,0,"law.go:16",#[],none⟩) rfl (fun K hK=>?_) AllReadyH.nil)
   ·go_simp
    (go_at_call 22; (with_reducible refine (Neg_any _ (hO.below hS.2.2.2.2 (Nat.le_refl _)) (sm_small (by decide))).mono ?_); rintro e wM ⟨rM,rfl,hM,hb1⟩)
    obtain ⟨mn,ma,ml,mk,rfl⟩:=hM.form
    go_wp2_with fail
    refine hK.out _ _ (kp4 hS hb1) (fun hS=>?_)
    clear hK K
    replace bA:=bA.below hb1 bA.lt
    replace hN:=hN.below hb1 (Nat.le_refl _)
    replace bB:=bB.below hb1 bB.lt
    ((try simp only [Act.put]); try simp only [List.setIfInBounds_toArray,List.set_cons_zero,List.set_cons_succ])
    refine tkH 9 ⟨some 17,.build 48 #[(0,.tmp 14),(1,.tmp 16)],48,"law.go:16",#[eD 6,eD 8],none⟩ hS ?_
    try simp only [Act.put,sB,sC,sD]
    rw [← hG]
    exact n1_5_6_8 _ gA nn na nl nk gB mn ma ml mk hS bA hN bB hM
   ·have hg3:W.heap.size ≤ w'.heap.size:=hS.2.2.2.2.size
    obtain ⟨wA,g3,HWA,HG3,b3,hb1⟩:=new_blk w' #[.int .i64 0,.slice none 0 0,.slice none 0 0,.int .i64 0] 28
    go_simp
    try (rw [HWA.out])
    try (rw [HG3.out])
    refine hK.out _ _ (kp4 hS hb1) (fun hS=>?_)
    rw [HG3.out] at hg3
    clear hK K HWA HG3
    replace bA:=bA.below hb1 bA.lt
    replace hN:=hN.below hb1 (Nat.le_refl _)
    replace bB:=bB.below hb1 bB.lt
    ((try simp only [Act.put]); try simp only [List.setIfInBounds_toArray,List.set_cons_zero,List.set_cons_succ])
    rw [← hG]
    exact n1_5_6_15 _ gA nn na nl nk gB g3 hS bA hN bB b3 hg3
  have n1_5_8_15:∀ (w':World) (gA:Nat) (nn:Bool) (na:Option Addr) (nl:Nat) (nk:Nat) (mn:Bool) (ma:Option Addr) (ml:Nat) (mk:Nat) (g3:Nat) (hS:w'.cell? ⟨g1,0,none⟩ = some (.bool an) ∧ w'.cell? ⟨g1,1,none⟩ = some (.slice aa al ak) ∧ w'.cell? ⟨g2,0,none⟩ = some (.bool bn) ∧ w'.cell? ⟨g2,1,none⟩ = some (.slice ba bl bk) ∧ Below W.heap.size W w') (bA:Blk w' gA 38 #[.bool an,.slice aa al ak]) (hN:IntV w' (.agg #[.bool nn,.slice na nl nk]) (-2)) (hM:IntV w' (.agg #[.bool mn,.slice ma ml mk]) (-1)) (b3:Blk w' g3 28 #[.int .i64 0,.slice none 0 0,.slice none 0 0,.int .i64 0]) (hg3:W.heap.size ≤ g3),G 9 #[true,true,true,true,true,true,false,true,true,false,false,false,false,false,false,true,false,false] { tmps:=spT an aa al ak bn ba bl bk g1 g2 (.pointer (some ⟨g3,0,none⟩)) undef (.slice (some ⟨gA,0,none⟩) 1 1) (.agg #[.slice (some ⟨gA,0,none⟩) 1 1,.bool bn,.slice ba bl bk]) (.agg #[.bool nn,.slice na nl nk]) undef (.agg #[.bool mn,.slice ma ml mk]) undef undef undef undef undef,defers:=[] } w':=by
   intro w' gA nn na nl nk mn ma ml mk g3 hS bA hN hM b3 hg3
   rw [hG]
   refine wpAnyH_ready (rs:=[6]) (by kernel_rfl) (by simp) ?_
   refine AllReadyH.cons (o:=⟨some 14,.buildSlice 25 1 #[(0,.tmp 13)],25,"law.go:16",#[eD 5],none⟩) rfl (fun K hK=>?_) AllReadyH.nil
   ·obtain ⟨wA,gB,HWA,HGB,bB,hb1⟩:=new_blk w' #[.bool nn,.slice na nl nk] 38
    go_simp
    try (rw [HWA.out])
    try (rw [HGB.out])
    refine hK.out _ _ (kp4 hS hb1) (fun hS=>?_)
    clear hK K HWA HGB
    replace bA:=bA.below hb1 bA.lt
    replace hN:=hN.below hb1 (Nat.le_refl _)
    replace hM:=hM.below hb1 (Nat.le_refl _)
    replace b3:=b3.below hb1 b3.lt
    ((try simp only [Act.put]); try simp only [List.setIfInBounds_toArray,List.set_cons_zero,List.set_cons_succ])
    refine tkH 9 ⟨some 17,.build 48 #[(0,.tmp 14),(1,.tmp 16)],48,"law.go:16",#[eD 6,eD 8],none⟩ hS ?_
    try simp only [Act.put,sB,sC,sD]
    rw [← hG]
    exact n1_5_6_8_15 _ gA nn na nl nk gB mn ma ml mk g3 hS bA hN bB hM b3 hg3
  have n1_5_8:∀ (w':World) (gA:Nat) (nn:Bool) (na:Option Addr) (nl:Nat) (nk:Nat) (mn:Bool) (ma:Option Addr) (ml:Nat) (mk:Nat) (hS:w'.cell? ⟨g1,0,none⟩ = some (.bool an) ∧ w'.cell? ⟨g1,1,none⟩ = some (.slice aa al ak) ∧ w'.cell? ⟨g2,0,none⟩ = some (.bool bn) ∧ w'.cell? ⟨g2,1,none⟩ = some (.slice ba bl bk) ∧ Below W.heap.size W w') (bA:Blk w' gA 38 #[.bool an,.slice aa al ak]) (hN:IntV w' (.agg #[.bool nn,.slice na nl nk]) (-2)) (hM:IntV w' (.agg #[.bool mn,.slice ma ml mk]) (-1)),G 10 #[true,true,true,true,true,true,false,true,true,false,false,false,false,false,false,false,false,false] { tmps:=spT an aa al ak bn ba bl bk g1 g2 undef undef (.slice (some ⟨gA,0,none⟩) 1 1) (.agg #[.slice (some ⟨gA,0,none⟩) 1 1,.bool bn,.slice ba bl bk]) (.agg #[.bool nn,.slice na nl nk]) undef (.agg #[.bool mn,.slice ma ml mk]) undef undef undef undef undef,defers:=[] } w':=by
   intro w' gA nn na nl nk mn ma ml mk hS bA hN hM
   rw [hG]
   refine wpAnyH_ready (rs:=[6,15]) (by kernel_rfl) (by simp) ?_
   refine AllReadyH.cons (o:=⟨some 14,.buildSlice 25 1 #[(0,.tmp 13)],25,"law.go:16",#[eD 5],none⟩) rfl (fun K hK=>?_) (AllReadyH.cons (o:=⟨some 3,.alloc 28,0,"law.go:16",#[],none⟩) rfl (fun K hK=>?_) AllReadyH.nil)
   ·obtain ⟨wA,gB,HWA,HGB,bB,hb1⟩:=new_blk w' #[.bool nn,.slice na nl nk] 38
    go_simp
    try (rw [HWA.out])
    try (rw [HGB.out])
    refine hK.out _ _ (kp4 hS hb1) (fun hS=>?_)
    clear hK K HWA HGB
    replace bA:=bA.below hb1 bA.lt
    replace hN:=hN.below hb1 (Nat.le_refl _)
    replace hM:=hM.below hb1 (Nat.le_refl _)
    ((try simp only [Act.put]); try simp only [List.setIfInBounds_toArray,List.set_cons_zero,List.set_cons_succ])
    refine tkH 9 ⟨some 17,.build 48 #[(0,.tmp 14),(1,.tmp 16)],48,"law.go:16",#[eD 6,eD 8],none⟩ hS ?_
    try simp only [Act.put,sB,sC,sD]
    rw [← hG]
    exact n1_5_6_8 _ gA nn na nl nk gB mn ma ml mk hS bA hN bB hM
   ·have hg3:W.heap.size ≤ w'.heap.size:=hS.2.2.2.2.size
    obtain ⟨wA,g3,HWA,HG3,b3,hb1⟩:=new_blk w' #[.int .i64 0,.slice none 0 0,.slice none 0 0,.int .i64 0] 28
    go_simp
    try (rw [HWA.out])
    try (rw [HG3.out])
    refine hK.out _ _ (kp4 hS hb1) (fun hS=>?_)
    rw [HG3.out] at hg3
    clear hK K HWA HG3
    replace bA:=bA.below hb1 bA.lt
    replace hN:=hN.below hb1 (Nat.le_refl _)
    replace hM:=hM.below hb1 (Nat.le_refl _)
    ((try simp only [Act.put]); try simp only [List.setIfInBounds_toArray,List.set_cons_zero,List.set_cons_succ])
    rw [← hG]
    exact n1_5_8_15 _ gA nn na nl nk mn ma ml mk g3 hS bA hN hM b3 hg3
  have n1_5_15:∀ (w':World) (gA:Nat) (nn:Bool) (na:Option Addr) (nl:Nat) (nk:Nat) (g3:Nat) (hS:w'.cell? ⟨g1,0,none⟩ = some (.bool an) ∧ w'.cell? ⟨g1,1,none⟩ = some (.slice aa al ak) ∧ w'.cell? ⟨g2,0,none⟩ = some (.bool bn) ∧ w'.cell? ⟨g2,1,none⟩ = some (.slice ba bl bk) ∧ Below W.heap.size W w') (bA:Blk w' gA 38 #[.bool an,.slice aa al ak]) (hN:IntV w' (.agg #[.bool nn,.slice na nl nk]) (-2)) (b3:Blk w' g3 28 #[.int .i64 0,.slice none 0 0,.slice none 0 0,.int .i64 0]) (hg3:W.heap.size ≤ g3),G 10 #[true,true,true,true,true,true,false,true,false,false,false,false,false,false,false,true,false,false] { tmps:=spT an aa al ak bn ba bl bk g1 g2 (.pointer (some ⟨g3,0,none⟩)) undef (.slice (some ⟨gA,0,none⟩) 1 1) (.agg #[.slice (some ⟨gA,0,none⟩) 1 1,.bool bn,.slice ba bl bk]) (.agg #[.bool nn,.slice na nl nk]) undef undef undef undef undef undef undef,defers:=[] } w':=by
   intro w' gA nn na nl nk g3 hS bA hN b3 hg3
   rw [hG]
   refine wpAnyH_ready (rs:=[6,8]) (by kernel_rfl) (by simp) ?_
   refine AllReadyH.cons (o:=⟨some 14,.buildSlice 25 1 #[(0,.tmp 13)],25,"law.go:16",#[eD 5],none⟩) rfl (fun K hK=>?_) (AllReadyH.cons (o:=⟨some 16,.call { callee:=.value (.func 22),args:=#[.tmp 15],argTypes:=#[38] },38,"law.go:16",#[eD 7,eC 5],none⟩) rfl (fun K hK=>?_) AllReadyH.nil)
   ·obtain ⟨wA,gB,HWA,HGB,bB,hb1⟩:=new_blk w' #[.bool nn,.slice na nl nk] 38
    go_simp
    try (rw [HWA.out])
    try (rw [HGB.out])
    refine hK.out _ _ (kp4 hS hb1) (fun hS=>?_)
    clear hK K HWA HGB
    replace bA:=bA.below hb1 bA.lt
    replace hN:=hN.below hb1 (Nat.le_refl _)
    replace b3:=b3.below hb1 b3.lt
    ((try simp only [Act.put]); try simp only [List.setIfInBounds_toArray,List.set_cons_zero,List.set_cons_succ])
    rw [← hG]
    exact n1_5_6_15 _ gA nn na nl nk gB g3 hS bA hN bB b3 hg3
   ·go_simp
    (go_at_call 22; (with_reducible refine (Neg_any _ (hO.below hS.2.2.2.2 (Nat.le_refl _)) (sm_small (by decide))).mono ?_); rintro e wM ⟨rM,rfl,hM,hb1⟩)
    obtain ⟨mn,ma,ml,mk,rfl⟩:=hM.form
    go_wp2_with fail
    refine hK.out _ _ (kp4 hS hb1) (fun hS=>?_)
    clear hK K
    replace bA:=bA.below hb1 bA.lt
    replace hN:=hN.below hb1 (Nat.le_refl _)
    replace b3:=b3.below hb1 b3.lt
    ((try simp only [Act.put]); try simp only [List.setIfInBounds_toArray,List.set_cons_zero,List.set_cons_succ])
    rw [← hG]
    exact n1_5_8_15 _ gA nn na nl nk mn ma ml mk g3 hS bA hN hM b3 hg3
  have n1_5:∀ (w':World) (gA:Nat) (nn:Bool) (na:Option Addr) (nl:Nat) (nk:Nat) (hS:w'.cell? ⟨g1,0,none⟩ = some (.bool an) ∧ w'.cell? ⟨g1,1,none⟩ = some (.slice aa al ak) ∧ w'.cell? ⟨g2,0,none⟩ = some (.bool bn) ∧ w'.cell? ⟨g2,1,none⟩ = some (.slice ba bl bk) ∧ Below W.heap.size W w') (bA:Blk w' gA 38 #[.bool an,.slice aa al ak]) (hN:IntV w' (.agg #[.bool nn,.slice na nl nk]) (-2)),G 11 #[true,true,true,true,true,true,false,true,false,false,false,false,false,false,false,false,false,false] { tmps:=spT an aa al ak bn ba bl bk g1 g2 undef undef (.slice (some ⟨gA,0,none⟩) 1 1) (.agg #[.slice (some ⟨gA,0,none⟩) 1 1,.bool bn,.slice ba bl bk]) (.agg #[.bool nn,.slice na nl nk]) undef undef undef undef undef undef undef,defers:=[] } w':=by
   intro w' gA nn na nl nk hS bA hN
   rw [hG]
   refine wpAnyH_ready (rs:=[6,8,15]) (by kernel_rfl) (by simp) ?_
   refine AllReadyH.cons (o:=⟨some 14,.buildSlice 25 1 #[(0,.tmp 13)],25,"law.go:16",#[eD 5],none⟩) rfl (fun K hK=>?_) (AllReadyH.cons (o:=⟨some 16,.call { callee:=.value (.func 22),args:=#[.tmp 15],argTypes:=#[38] },38,"law.go:16",#[eD 7,eC 5],none⟩) rfl (fun K hK=>?_) (AllReadyH.cons (o:=⟨some 3,.alloc 28,0,"law.go:16",#[],none⟩) rfl (fun K hK=>?_) AllReadyH.nil))
   ·obtain ⟨wA,gB,HWA,HGB,bB,hb1⟩:=new_blk w' #[.bool nn,.slice na nl nk] 38
    go_simp
    try (rw [HWA.out])
    try (rw [HGB.out])
    refine hK.out _ _ (kp4 hS hb1) (fun hS=>?_)
    clear hK K HWA HGB
    replace bA:=bA.below hb1 bA.lt
    replace hN:=hN.below hb1 (Nat.le_refl _)
    ((try simp only [Act.put]); try simp only [List.setIfInBounds_toArray,List.set_cons_zero,List.set_cons_succ])
    rw [← hG]
    exact n1_5_6 _ gA nn na nl nk gB hS bA hN bB
   ·go_simp
    (go_at_call 22; (with_reducible refine (Neg_any _ (hO.below hS.2.2.2.2 (Nat.le_refl _)) (sm_small (by decide))).mono ?_); rintro e wM ⟨rM,rfl,hM,hb1⟩)
    obtain ⟨mn,ma,ml,mk,rfl⟩:=hM.form
    go_wp2_with fail
    refine hK.out _ _ (kp4 hS hb1) (fun hS=>?_)
    clear hK K
    replace bA:=bA.below hb1 bA.lt
    replace hN:=hN.below hb1 (Nat.le_refl _)
    ((try simp only [Act.put]); try simp only [List.setIfInBounds_toArray,List.set_cons_zero,List.set_cons_succ])
    rw [← hG]
    exact n1_5_8 _ gA nn na nl nk mn ma ml mk hS bA hN hM
   ·have hg3:W.heap.size ≤ w'.heap.size:=hS.2.2.2.2.size
    obtain ⟨wA,g3,HWA,HG3,b3,hb1⟩:=new_blk w' #[.int .i64 0,.slice none 0 0,.slice none 0 0,.int .i64 0] 28
    go_simp
    try (rw [HWA.out])
    try (rw [HG3.out])
    refine hK.out _ _ (kp4 hS hb1) (fun hS=>?_)
    rw [HG3.out] at hg3
    clear hK K HWA HG3
    replace bA:=bA.below hb1 bA.lt
    replace hN:=hN.below hb1 (Nat.le_refl _)
    ((try simp only [Act.put]); try simp only [List.setIfInBounds_toArray,List.set_cons_zero,List.set_cons_succ])
    rw [← hG]
    exact n1_5_15 _ gA nn na nl nk g3 hS bA hN b3 hg3
  have n1_15:∀ (w':World) (gA:Nat) (g3:Nat) (hS:w'.cell? ⟨g1,0,none⟩ = some (.bool an) ∧ w'.cell? ⟨g1,1,none⟩ = some (.slice aa al ak) ∧ w'.cell? ⟨g2,0,none⟩ = some (.bool bn) ∧ w'.cell? ⟨g2,1,none⟩ = some (.slice ba bl bk) ∧ Below W.heap.size W w') (bA:Blk w' gA 38 #[.bool an,.slice aa al ak]) (b3:Blk w' g3 28 #[.int .i64 0,.slice none 0 0,.slice none 0 0,.int .i64 0]) (hg3:W.heap.size ≤ g3),G 11 #[true,true,true,true,true,false,false,true,false,false,false,false,false,false,false,true,false,false] { tmps:=spT an aa al ak bn ba bl bk g1 g2 (.pointer (some ⟨g3,0,none⟩)) undef (.slice (some ⟨gA,0,none⟩) 1 1) (.agg #[.slice (some ⟨gA,0,none⟩) 1 1,.bool bn,.slice ba bl bk]) undef undef undef undef undef undef undef undef,defers:=[] } w':=by
   intro w' gA g3 hS bA b3 hg3
   rw [hG]
   refine wpAnyH_ready (rs:=[5]) (by kernel_rfl) (by simp) ?_
   refine AllReadyH.cons (o:=⟨some 13,.call { callee:=.value (.func 22),args:=#[.tmp 12],argTypes:=#[38] },38,"law.go:16",#[eD 4],none⟩) rfl (fun K hK=>?_) AllReadyH.nil
   ·go_simp
    (go_at_call 22; (with_reducible refine (Neg_any _ (hA.below hS.2.2.2.2 (Nat.le_refl _)) (sm_small (by decide))).mono ?_); rintro e wN ⟨rN,rfl,hN,hb1⟩)
    obtain ⟨nn,na,nl,nk,rfl⟩:=hN.form
    go_wp2_with fail
    refine hK.out _ _ (kp4 hS hb1) (fun hS=>?_)
    clear hK K
    replace bA:=bA.below hb1 bA.lt
    replace b3:=b3.below hb1 b3.lt
    ((try simp only [Act.put]); try simp only [List.setIfInBounds_toArray,List.set_cons_zero,List.set_cons_succ])
    rw [← hG]
    exact n1_5_15 _ gA nn na nl nk g3 hS bA hN b3 hg3
  have n1:∀ (w':World) (gA:Nat) (hS:w'.cell? ⟨g1,0,none⟩ = some (.bool an) ∧ w'.cell? ⟨g1,1,none⟩ = some (.slice aa al ak) ∧ w'.cell? ⟨g2,0,none⟩ = some (.bool bn) ∧ w'.cell? ⟨g2,1,none⟩ = some (.slice ba bl bk) ∧ Below W.heap.size W w') (bA:Blk w' gA 38 #[.bool an,.slice aa al ak]),G 12 #[true,true,true,true,true,false,false,true,false,false,false,false,false,false,false,false,false,false] { tmps:=spT an aa al ak bn ba bl bk g1 g2 undef undef (.slice (some ⟨gA,0,none⟩) 1 1) (.agg #[.slice (some ⟨gA,0,none⟩) 1 1,.bool bn,.slice ba bl bk]) undef undef undef undef undef undef undef undef,defers:=[] } w':=by
   intro w' gA hS bA
   rw [hG]
   refine wpAnyH_ready (rs:=[5,15]) (by kernel_rfl) (by simp) ?_
   refine AllReadyH.cons (o:=⟨some 13,.call { callee:=.value (.func 22),args:=#[.tmp 12],argTypes:=#[38] },38,"law.go:16",#[eD 4],none⟩) rfl (fun K hK=>?_) (AllReadyH.cons (o:=⟨some 3,.alloc 28,0,"law.go:16",#[],none⟩) rfl (fun K hK=>?_) AllReadyH.nil)
   ·go_simp
    (go_at_call 22; (with_reducible refine (Neg_any _ (hA.below hS.2.2.2.2 (Nat.le_refl _)) (sm_small (by decide))).mono ?_); rintro e wN ⟨rN,rfl,hN,hb1⟩)
    obtain ⟨nn,na,nl,nk,rfl⟩:=hN.form
    go_wp2_with fail
    refine hK.out _ _ (kp4 hS hb1) (fun hS=>?_)
    clear hK K
    replace bA:=bA.below hb1 bA.lt
    ((try simp only [Act.put]); try simp only [List.setIfInBounds_toArray,List.set_cons_zero,List.set_cons_succ])
    rw [← hG]
    exact n1_5 _ gA nn na nl nk hS bA hN
   ·have hg3:W.heap.size ≤ w'.heap.size:=hS.2.2.2.2.size
    obtain ⟨wA,g3,HWA,HG3,b3,hb1⟩:=new_blk w' #[.int .i64 0,.slice none 0 0,.slice none 0 0,.int .i64 0] 28
    go_simp
    try (rw [HWA.out])
    try (rw [HG3.out])
    refine hK.out _ _ (kp4 hS hb1) (fun hS=>?_)
    rw [HG3.out] at hg3
    clear hK K HWA HG3
    replace bA:=bA.below hb1 bA.lt
    ((try simp only [Act.put]); try simp only [List.setIfInBounds_toArray,List.set_cons_zero,List.set_cons_succ])
    rw [← hG]
    exact n1_15 _ gA g3 hS bA b3 hg3
  have n5_6_8_15:∀ (w':World) (nn:Bool) (na:Option Addr) (nl:Nat) (nk:Nat) (gB:Nat) (mn:Bool) (ma:Option Addr) (ml:Nat) (mk:Nat) (g3:Nat) (hS:w'.cell? ⟨g1,0,none⟩ = some (.bool an) ∧ w'.cell? ⟨g1,1,none⟩ = some (.slice aa al ak) ∧ w'.cell? ⟨g2,0,none⟩ = some (.bool bn) ∧ w'.cell? ⟨g2,1,none⟩ = some (.slice ba bl bk) ∧ Below W.heap.size W w') (hN:IntV w' (.agg #[.bool nn,.slice na nl nk]) (-2)) (bB:Blk w' gB 38 #[.bool nn,.slice na nl nk]) (hM:IntV w' (.agg #[.bool mn,.slice ma ml mk]) (-1)) (b3:Blk w' g3 28 #[.int .i64 0,.slice none 0 0,.slice none 0 0,.int .i64 0]) (hg3:W.heap.size ≤ g3),G 9 #[true,false,true,false,true,true,true,true,true,true,false,false,false,false,false,true,false,false] { tmps:=spT an aa al ak bn ba bl bk g1 g2 (.pointer (some ⟨g3,0,none⟩)) undef undef undef (.agg #[.bool nn,.slice na nl nk]) (.slice (some ⟨gB,0,none⟩) 1 1) (.agg #[.bool mn,.slice ma ml mk]) (.agg #[.slice (some ⟨gB,0,none⟩) 1 1,.bool mn,.slice ma ml mk]) undef undef undef undef,defers:=[] } w':=by
   intro w' nn na nl nk gB mn ma ml mk g3 hS hN bB hM b3 hg3
   rw [hG]
   refine wpAnyH_ready (rs:=[1]) (by kernel_rfl) (by simp) ?_
   refine AllReadyH.cons (o:=⟨some 9,.buildSlice 25 1 #[(0,.tmp 8)],25,"law.go:16",#[eD 0],none⟩) rfl (fun K hK=>?_) AllReadyH.nil
   ·obtain ⟨wA,gA,HWA,HGA,bA,hb1⟩:=new_blk w' #[.bool an,.slice aa al ak] 38
    go_simp
    try (rw [HWA.out])
    try (rw [HGA.out])
    refine hK.out _ _ (kp4 hS hb1) (fun hS=>?_)
    clear hK K HWA HGA
    replace hN:=hN.below hb1 (Nat.le_refl _)
    replace bB:=bB.below hb1 bB.lt
    replace hM:=hM.below hb1 (Nat.le_refl _)
    replace b3:=b3.below hb1 b3.lt
    ((try simp only [Act.put]); try simp only [List.setIfInBounds_toArray,List.set_cons_zero,List.set_cons_succ])
    refine tkH 3 ⟨some 11,.build 48 #[(0,.tmp 9),(1,.tmp 10)],48,"law.go:16",#[eD 1,eD 2],none⟩ hS ?_
    try simp only [Act.put,sB,sC,sD]
    rw [← hG]
    exact n1_5_6_8_15 _ gA nn na nl nk gB mn ma ml mk g3 hS bA hN bB hM b3 hg3
  have n5_6_8:∀ (w':World) (nn:Bool) (na:Option Addr) (nl:Nat) (nk:Nat) (gB:Nat) (mn:Bool) (ma:Option Addr) (ml:Nat) (mk:Nat) (hS:w'.cell? ⟨g1,0,none⟩ = some (.bool an) ∧ w'.cell? ⟨g1,1,none⟩ = some (.slice aa al ak) ∧ w'.cell? ⟨g2,0,none⟩ = some (.bool bn) ∧ w'.cell? ⟨g2,1,none⟩ = some (.slice ba bl bk) ∧ Below W.heap.size W w') (hN:IntV w' (.agg #[.bool nn,.slice na nl nk]) (-2)) (bB:Blk w' gB 38 #[.bool nn,.slice na nl nk]) (hM:IntV w' (.agg #[.bool mn,.slice ma ml mk]) (-1)),G 10 #[true,false,true,false,true,true,true,true,true,true,false,false,false,false,false,false,false,false] { tmps:=spT an aa al ak bn ba bl bk g1 g2 undef undef undef undef (.agg #[.bool nn,.slice na nl nk]) (.slice (some ⟨gB,0,none⟩) 1 1) (.agg #[.bool mn,.slice ma ml mk]) (.agg #[.slice (some ⟨gB,0,none⟩) 1 1,.bool mn,.slice ma ml mk]) undef undef undef undef,defers:=[] } w':=by
   intro w' nn na nl nk gB mn ma ml mk hS hN bB hM
   rw [hG]
   refine wpAnyH_ready (rs:=[1,15]) (by kernel_rfl) (by simp) ?_
   refine AllReadyH.cons (o:=⟨some 9,.buildSlice 25 1 #[(0,.tmp 8)],25,"law.go:16",#[eD 0],none⟩) rfl (fun K hK=>?_) (AllReadyH.cons (o:=⟨some 3,.alloc 28,0,"law.go:16",#[],none⟩) rfl (fun K hK=>?_) AllReadyH.nil)
   ·obtain ⟨wA,gA,HWA,HGA,bA,hb1⟩:=new_blk w' #[.bool an,.slice aa al ak] 38
    go_simp
    try (rw [HWA.out])
    try (rw [HGA.out])
    refine hK.out _ _ (kp4 hS hb1) (fun hS=>?_)
    clear hK K HWA HGA
    replace hN:=hN.below hb1 (Nat.le_refl _)
    replace bB:=bB.below hb1 bB.lt
    replace hM:=hM.below hb1 (Nat.le_refl _)
    ((try simp only [Act.put]); try simp only [List.setIfInBounds_toArray,List.set_cons_zero,List.set_cons_succ])
    refine tkH 3 ⟨some 11,.build 48 #[(0,.tmp 9),(1,.tmp 10)],48,"law.go:16",#[eD 1,eD 2],none⟩ hS ?_
    try simp only [Act.put,sB,sC,sD]
    rw [← hG]
    exact n1_5_6_8 _ gA nn na nl nk gB mn ma ml mk hS bA hN bB hM
   ·have hg3:W.heap.size ≤ w'.heap.size:=hS.2.2.2.2.size
    obtain ⟨wA,g3,HWA,HG3,b3,hb1⟩:=new_blk w' #[.int .i64 0,.slice none 0 0,.slice none 0 0,.int .i64 0] 28
    go_simp
    try (rw [HWA.out])
    try (rw [HG3.out])
    refine hK.out _ _ (kp4 hS hb1) (fun hS=>?_)
    rw [HG3.out] at hg3
    clear hK K HWA HG3
    replace hN:=hN.below hb1 (Nat.le_refl _)
    replace bB:=bB.below hb1 bB.lt
    replace hM:=hM.below hb1 (Nat.le_refl _)
    ((try simp only [Act.put]); try simp only [List.setIfInBounds_toArray,List.set_cons_zero,List.set_cons_succ])
    rw [← hG]
    exact n5_6_8_15 _ nn na nl nk gB mn ma ml mk g3 hS hN bB hM b3 hg3
  have n5_6_15:∀ (w':World) (nn:Bool) (na:Option Addr) (nl:Nat) (nk:Nat) (gB:Nat) (g3:Nat) (hS:w'.cell? ⟨g1,0,none⟩ = some (.bool an) ∧ w'.cell? ⟨g1,1,none⟩ = some (.slice aa al ak) ∧ w'.cell? ⟨g2,0,none⟩ = some (.bool bn) ∧ w'.cell? ⟨g2,1,none⟩ = some (.slice ba bl bk) ∧ Below W.heap.size W w') (hN:IntV w' (.agg #[.bool nn,.slice na nl nk]) (-2)) (bB:Blk w' gB 38 #[.bool nn,.slice na nl nk]) (b3:Blk w' g3 28 #[.int .i64 0,.slice none 0 0,.slice none 0 0,.int .i64 0]) (hg3:W.heap.size ≤ g3),G 11 #[true,false,true,false,true,true,true,true,false,false,false,false,false,false,false,true,false,false] { tmps:=spT an aa al ak bn ba bl bk g1 g2 (.pointer (some ⟨g3,0,none⟩)) undef undef undef (.agg #[.bool nn,.slice na nl nk]) (.slice (some ⟨gB,0,none⟩) 1 1) undef undef undef undef undef undef,defers:=[] } w':=by
   intro w' nn na nl nk gB g3 hS hN bB b3 hg3
   rw [hG]
   refine wpAnyH_ready (rs:=[1,8]) (by kernel_rfl) (by simp) ?_
   refine AllReadyH.cons (o:=⟨some 9,.buildSlice 25 1 #[(0,.tmp 8)],25,"law.go:16",#[eD 0],none⟩) rfl (fun K hK=>?_) (AllReadyH.cons (o:=⟨some 16,.call { callee:=.value (.func 22),args:=#[.tmp 15],argTypes:=#[38] },38,"law.go:16",#[eD 7,eC 5],none⟩) rfl (fun K hK=>?_) AllReadyH.nil)
   ·obtain ⟨wA,gA,HWA,HGA,bA,hb1⟩:=new_blk w' #[.bool an,.slice aa al ak] 38
    go_simp
    try (rw [HWA.out])
    try (rw [HGA.out])
    refine hK.out _ _ (kp4 hS hb1) (fun hS=>?_)
    clear hK K HWA HGA
    replace hN:=hN.below hb1 (Nat.le_refl _)
    replace bB:=bB.below hb1 bB.lt
    replace b3:=b3.below hb1 b3.lt
    ((try simp only [Act.put]); try simp only [List.setIfInBounds_toArray,List.set_cons_zero,List.set_cons_succ])
    refine tkH 3 ⟨some 11,.build 48 #[(0,.tmp 9),(1,.tmp 10)],48,"law.go:16",#[eD 1,eD 2],none⟩ hS ?_
    try simp only [Act.put,sB,sC,sD]
    rw [← hG]
    exact n1_5_6_15 _ gA nn na nl nk gB g3 hS bA hN bB b3 hg3
   ·go_simp
    (go_at_call 22; (with_reducible refine (Neg_any _ (hO.below hS.2.2.2.2 (Nat.le_refl _)) (sm_small (by decide))).mono ?_); rintro e wM ⟨rM,rfl,hM,hb1⟩)
    obtain ⟨mn,ma,ml,mk,rfl⟩:=hM.form
    go_wp2_with fail
    refine hK.out _ _ (kp4 hS hb1) (fun hS=>?_)
    clear hK K
    replace hN:=hN.below hb1 (Nat.le_refl _)
    replace bB:=bB.below hb1 bB.lt
    replace b3:=b3.below hb1 b3.lt
    ((try simp only [Act.put]); try simp only [List.setIfInBounds_toArray,List.set_cons_zero,List.set_cons_succ])
    refine tkH 9 ⟨some 17,.build 48 #[(0,.tmp 14),(1,.tmp 16)],48,"law.go:16",#[eD 6,eD 8],none⟩ hS ?_
    try simp only [Act.put,sB,sC,sD]
    rw [← hG]
    exact n5_6_8_15 _ nn na nl nk gB mn ma ml mk g3 hS hN bB hM b3 hg3
  have n5_6:∀ (w':World) (nn:Bool) (na:Option Addr) (nl:Nat) (nk:Nat) (gB:Nat) (hS:w'.cell? ⟨g1,0,none⟩ = some (.bool an) ∧ w'.cell? ⟨g1,1,none⟩ = some (.slice aa al ak) ∧ w'.cell? ⟨g2,0,none⟩ = some (.bool bn) ∧ w'.cell? ⟨g2,1,none⟩ = some (.slice ba bl bk) ∧ Below W.heap.size W w') (hN:IntV w' (.agg #[.bool nn,.slice na nl nk]) (-2)) (bB:Blk w' gB 38 #[.bool nn,.slice na nl nk]),G 12 #[true,false,true,false,true,true,true,true,false,false,false,false,false,false,false,false,false,false] { tmps:=spT an aa al ak bn ba bl bk g1 g2 undef undef undef undef (.agg #[.bool nn,.slice na nl nk]) (.slice (some ⟨gB,0,none⟩) 1 1) undef undef undef undef undef undef,defers:=[] } w':=by
   intro w' nn na nl nk gB hS hN bB
   rw [hG]
   refine wpAnyH_ready (rs:=[1,8,15]) (by kernel_rfl) (by simp) ?_
   refine AllReadyH.cons (o:=⟨some 9,.buildSlice 25 1 #[(0,.tmp 8)],25,"law.go:16",#[eD 0],none⟩) rfl (fun K hK=>?_) (AllReadyH.cons (o:=⟨some 16,.call { callee:=.value (.func 22),args:=#[.tmp 15],argTypes:=#[38] },38,"law.go:16",#[eD 7,eC 5],none⟩) rfl (fun K hK=>?_) (AllReadyH.cons (o:=⟨some 3,.alloc 28,0,"law.go:16",#[],none⟩) rfl (fun K hK=>?_) AllReadyH.nil))
   ·obtain ⟨wA,gA,HWA,HGA,bA,hb1⟩:=new_blk w' #[.bool an,.slice aa al ak] 38
    go_simp
    try (rw [HWA.out])
    try (rw [HGA.out])
    refine hK.out _ _ (kp4 hS hb1) (fun hS=>?_)
    clear hK K HWA HGA
    replace hN:=hN.below hb1 (Nat.le_refl _)
    replace bB:=bB.below hb1 bB.lt
    ((try simp only [Act.put]); try simp only [List.setIfInBounds_toArray,List.set_cons_zero,List.set_cons_succ])
    refine tkH 3 ⟨some 11,.build 48 #[(0,.tmp 9),(1,.tmp 10)],48,"law.go:16",#[eD 1,eD 2],none⟩ hS ?_
    try simp only [Act.put,sB,sC,sD]
    rw [← hG]
    exact n1_5_6 _ gA nn na nl nk gB hS bA hN bB
   ·go_simp
    (go_at_call 22; (with_reducible refine (Neg_any _ (hO.below hS.2.2.2.2 (Nat.le_refl _)) (sm_small (by decide))).mono ?_); rintro e wM ⟨rM,rfl,hM,hb1⟩)
    obtain ⟨mn,ma,ml,mk,rfl⟩:=hM.form
    go_wp2_with fail
    refine hK.out _ _ (kp4 hS hb1) (fun hS=>?_)
    clear hK K
    replace hN:=hN.below hb1 (Nat.le_refl _)
    replace bB:=bB.below hb1 bB.lt
    ((try simp only [Act.put]); try simp only [List.setIfInBounds_toArray,List.set_cons_zero,List.set_cons_succ])
    refine tkH 9 ⟨some 17,.build 48 #[(0,.tmp 14),(1,.tmp 16)],48,"law.go:16",#[eD 6,eD 8],none⟩ hS ?_
    try simp only [Act.put,sB,sC,sD]
    rw [← hG]
    exact n5_6_8 _ nn na nl nk gB mn ma ml mk hS hN bB hM
   ·have hg3:W.heap.size ≤ w'.heap.size:=hS.2.2.2.2.size
    obtain ⟨wA,g3,HWA,HG3,b3,hb1⟩:=new_blk w' #[.int .i64 0,.slice none 0 0,.slice none 0 0,.int .i64 0] 28
    go_simp
    try (rw [HWA.out])
    try (rw [HG3.out])
    refine hK.out _ _ (kp4 hS hb1) (fun hS=>?_)
    rw [HG3.out] at hg3
    clear hK K HWA HG3
    replace hN:=hN.below hb1 (Nat.le_refl _)
    replace bB:=bB.below hb1 bB.lt
    ((try simp only [Act.put]); try simp only [List.setIfInBounds_toArray,List.set_cons_zero,List.set_cons_succ])
    rw [← hG]
    exact n5_6_15 _ nn na nl nk gB g3 hS hN bB b3 hg3
  have n5_8_15:∀ (w':World) (nn:Bool) (na:Option Addr) (nl:Nat) (nk:Nat) (mn:Bool) (ma:Option Addr) (ml:Nat) (mk:Nat) (g3:Nat) (hS:w'.cell? ⟨g1,0,none⟩ = some (.bool an) ∧ w'.cell? ⟨g1,1,none⟩ = some (.slice aa al ak) ∧ w'.cell? ⟨g2,0,none⟩ = some (.bool bn) ∧ w'.cell? ⟨g2,1,none⟩ = some (.slice ba bl bk) ∧ Below W.heap.size W w') (hN:IntV w' (.agg #[.bool nn,.slice na nl nk]) (-2)) (hM:IntV w' (.agg #[.bool mn,.slice ma ml mk]) (-1)) (b3:Blk w' g3 28 #[.int .i64 0,.slice none 0 0,.slice none 0 0,.int .i64 0]) (hg3:W.heap.size ≤ g3),G 11 #[true,false,true,false,true,true,false,true,true,false,false,false,false,false,false,true,false,false] { tmps:=spT an aa al ak bn ba bl bk g1 g2 (.pointer (some ⟨g3,0,none⟩)) undef undef undef (.agg #[.bool nn,.slice na nl nk]) undef (.agg #[.bool mn,.slice ma ml mk]) undef undef undef undef undef,defers:=[] } w':=by
   intro w' nn na nl nk mn ma ml mk g3 hS hN hM b3 hg3
   rw [hG]
   refine wpAnyH_ready (rs:=[1,6]) (by kernel_rfl) (by simp) ?_
   refine AllReadyH.cons (o:=⟨some 9,.buildSlice 25 1 #[(0,.tmp 8)],25,"law.go:16",#[eD 0],none⟩) rfl (fun K hK=>?_) (AllReadyH.cons (o:=⟨some 14,.buildSlice 25 1 #[(0,.tmp 13)],25,"law.go:16",#[eD 5],none⟩) rfl (fun K hK=>?_) AllReadyH.nil)
   ·obtain ⟨wA,gA,HWA,HGA,bA,hb1⟩:=new_blk w' #[.bool an,.slice aa al ak] 38
    go_simp
    try (rw [HWA.out])
    try (rw [HGA.out])
    refine hK.out _ _ (kp4 hS hb1) (fun hS=>?_)
    clear hK K HWA HGA
    replace hN:=hN.below hb1 (Nat.le_refl _)
    replace hM:=hM.below hb1 (Nat.le_refl _)
    replace b3:=b3.below hb1 b3.lt
    ((try simp only [Act.put]); try simp only [List.setIfInBounds_toArray,List.set_cons_zero,List.set_cons_succ])
    refine tkH 3 ⟨some 11,.build 48 #[(0,.tmp 9),(1,.tmp 10)],48,"law.go:16",#[eD 1,eD 2],none⟩ hS ?_
    try simp only [Act.put,sB,sC,sD]
    rw [← hG]
    exact n1_5_8_15 _ gA nn na nl nk mn ma ml mk g3 hS bA hN hM b3 hg3
   ·obtain ⟨wA,gB,HWA,HGB,bB,hb1⟩:=new_blk w' #[.bool nn,.slice na nl nk] 38
    go_simp
    try (rw [HWA.out])
    try (rw [HGB.out])
    refine hK.out _ _ (kp4 hS hb1) (fun hS=>?_)
    clear hK K HWA HGB
    replace hN:=hN.below hb1 (Nat.le_refl _)
    replace hM:=hM.below hb1 (Nat.le_refl _)
    replace b3:=b3.below hb1 b3.lt
    ((try simp only [Act.put]); try simp only [List.setIfInBounds_toArray,List.set_cons_zero,List.set_cons_succ])
    refine tkH 9 ⟨some 17,.build 48 #[(0,.tmp 14),(1,.tmp 16)],48,"law.go:16",#[eD 6,eD 8],none⟩ hS ?_
    try simp only [Act.put,sB,sC,sD]
    rw [← hG]
    exact n5_6_8_15 _ nn na nl nk gB mn ma ml mk g3 hS hN bB hM b3 hg3
  have n5_8:∀ (w':World) (nn:Bool) (na:Option Addr) (nl:Nat) (nk:Nat) (mn:Bool) (ma:Option Addr) (ml:Nat) (mk:Nat) (hS:w'.cell? ⟨g1,0,none⟩ = some (.bool an) ∧ w'.cell? ⟨g1,1,none⟩ = some (.slice aa al ak) ∧ w'.cell? ⟨g2,0,none⟩ = some (.bool bn) ∧ w'.cell? ⟨g2,1,none⟩ = some (.slice ba bl bk) ∧ Below W.heap.size W w') (hN:IntV w' (.agg #[.bool nn,.slice na nl nk]) (-2)) (hM:IntV w' (.agg #[.bool mn,.slice ma ml mk]) (-1)),G 12 #[true,false,true,false,true,true,false,true,true,false,false,false,false,false,false,false,false,false] { tmps:=spT an aa al ak bn ba bl bk g1 g2 undef undef undef undef (.agg #[.bool nn,.slice na nl nk]) undef (.agg #[.bool mn,.slice ma ml mk]) undef undef undef undef undef,defers:=[] } w':=by
   intro w' nn na nl nk mn ma ml mk hS hN hM
   rw [hG]
   refine wpAnyH_ready (rs:=[1,6,15]) (by kernel_rfl) (by simp) ?_
   refine AllReadyH.cons (o:=⟨some 9,.buildSlice 25 1 #[(0,.tmp 8)],25,"law.go:16",#[eD 0],none⟩) rfl (fun K hK=>?_) (AllReadyH.cons (o:=⟨some 14,.buildSlice 25 1 #[(0,.tmp 13)],25,"law.go:16",#[eD 5],none⟩) rfl (fun K hK=>?_) (AllReadyH.cons (o:=⟨some 3,.alloc 28,0,"law.go:16",#[],none⟩) rfl (fun K hK=>?_) AllReadyH.nil))
   ·obtain ⟨wA,gA,HWA,HGA,bA,hb1⟩:=new_blk w' #[.bool an,.slice aa al ak] 38
    go_simp
    try (rw [HWA.out])
    try (rw [HGA.out])
    refine hK.out _ _ (kp4 hS hb1) (fun hS=>?_)
    clear hK K HWA HGA
    replace hN:=hN.below hb1 (Nat.le_refl _)
    replace hM:=hM.below hb1 (Nat.le_refl _)
    ((try simp only [Act.put]); try simp only [List.setIfInBounds_toArray,List.set_cons_zero,List.set_cons_succ])
    refine tkH 3 ⟨some 11,.build 48 #[(0,.tmp 9),(1,.tmp 10)],48,"law.go:16",#[eD 1,eD 2],none⟩ hS ?_
    try simp only [Act.put,sB,sC,sD]
    rw [← hG]
    exact n1_5_8 _ gA nn na nl nk mn ma ml mk hS bA hN hM
   ·obtain ⟨wA,gB,HWA,HGB,bB,hb1⟩:=new_blk w' #[.bool nn,.slice na nl nk] 38
    go_simp
    try (rw [HWA.out])
    try (rw [HGB.out])
    refine hK.out _ _ (kp4 hS hb1) (fun hS=>?_)
    clear hK K HWA HGB
    replace hN:=hN.below hb1 (Nat.le_refl _)
    replace hM:=hM.below hb1 (Nat.le_refl _)
    ((try simp only [Act.put]); try simp only [List.setIfInBounds_toArray,List.set_cons_zero,List.set_cons_succ])
    refine tkH 9 ⟨some 17,.build 48 #[(0,.tmp 14),(1,.tmp 16)],48,"law.go:16",#[eD 6,eD 8],none⟩ hS ?_
    try simp only [Act.put,sB,sC,sD]
    rw [← hG]
    exact n5_6_8 _ nn na nl nk gB mn ma ml mk hS hN bB hM
   ·have hg3:W.heap.size ≤ w'.heap.size:=hS.2.2.2.2.size
    obtain ⟨wA,g3,HWA,HG3,b3,hb1⟩:=new_blk w' #[.int .i64 0,.slice none 0 0,.slice none 0 0,.int .i64 0] 28
    go_simp
    try (rw [HWA.out])
    try (rw [HG3.out])
    refine hK.out _ _ (kp4 hS hb1) (fun hS=>?_)
    rw [HG3.out] at hg3
    clear hK K HWA HG3
    replace hN:=hN.below hb1 (Nat.le_refl _)
    replace hM:=hM.below hb1 (Nat.le_refl _)
    ((try simp only [Act.put]); try simp only [List.setIfInBounds_toArray,List.set_cons_zero,List.set_cons_succ])
    rw [← hG]
    exact n5_8_15 _ nn na nl nk mn ma ml mk g3 hS hN hM b3 hg3
  have n5_15:∀ (w':World) (nn:Bool) (na:Option Addr) (nl:Nat) (nk:Nat) (g3:Nat) (hS:w'.cell? ⟨g1,0,none⟩ = some (.bool an) ∧ w'.cell? ⟨g1,1,none⟩ = some (.slice aa al ak) ∧ w'.cell? ⟨g2,0,none⟩ = some (.bool bn) ∧ w'.cell? ⟨g2,1,none⟩ = some (.slice ba bl bk) ∧ Below W.heap.size W w') (hN:IntV w' (.agg #[.bool nn,.slice na nl nk]) (-2)) (b3:Blk w' g3 28 #[.int .i64 0,.slice none 0 0,.slice none 0 0,.int .i64 0]) (hg3:W.heap.size ≤ g3),G 12 #[true,false,true,false,true,true,false,true,false,false,false,false,false,false,false,true,false,false] { tmps:=spT an aa al ak bn ba bl bk g1 g2 (.pointer (some ⟨g3,0,none⟩)) undef undef undef (.agg #[.bool nn,.slice na nl nk]) undef undef undef undef undef undef undef,defers:=[] } w':=by
   intro w' nn na nl nk g3 hS hN b3 hg3
   rw [hG]
   refine wpAnyH_ready (rs:=[1,6,8]) (by kernel_rfl) (by simp) ?_
   refine AllReadyH.cons (o:=⟨some 9,.buildSlice 25 1 #[(0,.tmp 8)],25,"law.go:16",#[eD 0],none⟩) rfl (fun K hK=>?_) (AllReadyH.cons (o:=⟨some 14,.buildSlice 25 1 #[(0,.tmp 13)],25,"law.go:16",#[eD 5],none⟩) rfl (fun K hK=>?_) (AllReadyH.cons (o:=⟨some 16,.call { callee:=.value (.func 22),args:=#[.tmp 15],argTypes:=#[38] },38,"law.go:16",#[eD 7,eC 5],none⟩) rfl (fun K hK=>?_) AllReadyH.nil))
   ·obtain ⟨wA,gA,HWA,HGA,bA,hb1⟩:=new_blk w' #[.bool an,.slice aa al ak] 38
    go_simp
    try (rw [HWA.out])
    try (rw [HGA.out])
    refine hK.out _ _ (kp4 hS hb1) (fun hS=>?_)
    clear hK K HWA HGA
    replace hN:=hN.below hb1 (Nat.le_refl _)
    replace b3:=b3.below hb1 b3.lt
    ((try simp only [Act.put]); try simp only [List.setIfInBounds_toArray,List.set_cons_zero,List.set_cons_succ])
    refine tkH 3 ⟨some 11,.build 48 #[(0,.tmp 9),(1,.tmp 10)],48,"law.go:16",#[eD 1,eD 2],none⟩ hS ?_
    try simp only [Act.put,sB,sC,sD]
    rw [← hG]
    exact n1_5_15 _ gA nn na nl nk g3 hS bA hN b3 hg3
   ·obtain ⟨wA,gB,HWA,HGB,bB,hb1⟩:=new_blk w' #[.bool nn,.slice na nl nk] 38
    go_simp
    try (rw [HWA.out])
    try (rw [HGB.out])
    refine hK.out _ _ (kp4 hS hb1) (fun hS=>?_)
    clear hK K HWA HGB
    replace hN:=hN.below hb1 (Nat.le_refl _)
    replace b3:=b3.below hb1 b3.lt
    ((try simp only [Act.put]); try simp only [List.setIfInBounds_toArray,List.set_cons_zero,List.set_cons_succ])
    rw [← hG]
    exact n5_6_15 _ nn na nl nk gB g3 hS hN bB b3 hg3
   ·go_simp
    (go_at_call 22; (with_reducible refine (Neg_any _ (hO.below hS.2.2.2.2 (Nat.le_refl _)) (sm_small (by decide))).mono ?_); rintro e wM ⟨rM,rfl,hM,hb1⟩)
    obtain ⟨mn,ma,ml,mk,rfl⟩:=hM.form
    go_wp2_with fail
    refine hK.out _ _ (kp4 hS hb1) (fun hS=>?_)
    clear hK K
    replace hN:=hN.below hb1 (Nat.le_refl _)
    replace b3:=b3.below hb1 b3.lt
    ((try simp only [Act.put]); try simp only [List.setIfInBounds_toArray,List.set_cons_zero,List.set_cons_succ])
    rw [← hG]
    exact n5_8_15 _ nn na nl nk mn ma ml mk g3 hS hN hM b3 hg3
  have n5:∀ (w':World) (nn:Bool) (na:Option Addr) (nl:Nat) (nk:Nat) (hS:w'.cell? ⟨g1,0,none⟩ = some (.bool an) ∧ w'.cell? ⟨g1,1,none⟩ = some (.slice aa al ak) ∧ w'.cell? ⟨g2,0,none⟩ = some (.bool bn) ∧ w'.cell? ⟨g2,1,none⟩ = some (.slice ba bl bk) ∧ Below W.heap.size W w') (hN:IntV w' (.agg #[.bool nn,.slice na nl nk]) (-2)),G 13 #[true,false,true,false,true,true,false,true,false,false,false,false,false,false,false,false,false,false] { tmps:=spT an aa al ak bn ba bl bk g1 g2 undef undef undef undef (.agg #[.bool nn,.slice na nl nk]) undef undef undef undef undef undef undef,defers:=[] } w':=by
   intro w' nn na nl nk hS hN
   rw [hG]
   refine wpAnyH_ready (rs:=[1,6,8,15]) (by kernel_rfl) (by simp) ?_
   refine AllReadyH.cons (o:=⟨some 9,.buildSlice 25 1 #[(0,.tmp 8)],25,"law.go:16",#[eD 0],none⟩) rfl (fun K hK=>?_) (AllReadyH.cons (o:=⟨some 14,.buildSlice 25 1 #[(0,.tmp 13)],25,"law.go:16",#[eD 5],none⟩) rfl (fun K hK=>?_) (AllReadyH.cons (o:=⟨some 16,.call { callee:=.value (.func 22),args:=#[.tmp 15],argTypes:=#[38] },38,"law.go:16",#[eD 7,eC 5],none⟩) rfl (fun K hK=>?_) (AllReadyH.cons (o:=⟨some 3,.alloc 28,0,"law.go:16",#[],none⟩) rfl (fun K hK=>?_) AllReadyH.nil)))
   ·obtain ⟨wA,gA,HWA,HGA,bA,hb1⟩:=new_blk w' #[.bool an,.slice aa al ak] 38
    go_simp
    try (rw [HWA.out])
    try (rw [HGA.out])
    refine hK.out _ _ (kp4 hS hb1) (fun hS=>?_)
    clear hK K HWA HGA
    replace hN:=hN.below hb1 (Nat.le_refl _)
    ((try simp only [Act.put]); try simp only [List.setIfInBounds_toArray,List.set_cons_zero,List.set_cons_succ])
    refine tkH 3 ⟨some 11,.build 48 #[(0,.tmp 9),(1,.tmp 10)],48,"law.go:16",#[eD 1,eD 2],none⟩ hS ?_
    try simp only [Act.put,sB,sC,sD]
    rw [← hG]
    exact n1_5 _ gA nn na nl nk hS bA hN
   ·obtain ⟨wA,gB,HWA,HGB,bB,hb1⟩:=new_blk w' #[.bool nn,.slice na nl nk] 38
    go_simp
    try (rw [HWA.out])
    try (rw [HGB.out])
    refine hK.out _ _ (kp4 hS hb1) (fun hS=>?_)
    clear hK K HWA HGB
    replace hN:=hN.below hb1 (Nat.le_refl _)
    ((try simp only [Act.put]); try simp only [List.setIfInBounds_toArray,List.set_cons_zero,List.set_cons_succ])
    rw [← hG]
    exact n5_6 _ nn na nl nk gB hS hN bB
   ·go_simp
    (go_at_call 22; (with_reducible refine (Neg_any _ (hO.below hS.2.2.2.2 (Nat.le_refl _)) (sm_small (by decide))).mono ?_); rintro e wM ⟨rM,rfl,hM,hb1⟩)
    obtain ⟨mn,ma,ml,mk,rfl⟩:=hM.form
    go_wp2_with fail
    refine hK.out _ _ (kp4 hS hb1) (fun hS=>?_)
    clear hK K
    replace hN:=hN.below hb1 (Nat.le_refl _)
    ((try simp only [Act.put]); try simp only [List.setIfInBounds_toArray,List.set_cons_zero,List.set_cons_succ])
    rw [← hG]
    exact n5_8 _ nn na nl nk mn ma ml mk hS hN hM
   ·have hg3:W.heap.size ≤ w'.heap.size:=hS.2.2.2.2.size
    obtain ⟨wA,g3,HWA,HG3,b3,hb1⟩:=new_blk w' #[.int .i64 0,.slice none 0 0,.slice none 0 0,.int .i64 0] 28
    go_simp
    try (rw [HWA.out])
    try (rw [HG3.out])
    refine hK.out _ _ (kp4 hS hb1) (fun hS=>?_)
    rw [HG3.out] at hg3
    clear hK K HWA HG3
    replace hN:=hN.below hb1 (Nat.le_refl _)
    ((try simp only [Act.put]); try simp only [List.setIfInBounds_toArray,List.set_cons_zero,List.set_cons_succ])
    rw [← hG]
    exact n5_15 _ nn na nl nk g3 hS hN b3 hg3
  have n15:∀ (w':World) (g3:Nat) (hS:w'.cell? ⟨g1,0,none⟩ = some (.bool an) ∧ w'.cell? ⟨g1,1,none⟩ = some (.slice aa al ak) ∧ w'.cell? ⟨g2,0,none⟩ = some (.bool bn) ∧ w'.cell? ⟨g2,1,none⟩ = some (.slice ba bl bk) ∧ Below W.heap.size W w') (b3:Blk w' g3 28 #[.int .i64 0,.slice none 0 0,.slice none 0 0,.int .i64 0]) (hg3:W.heap.size ≤ g3),G 13 #[true,false,true,false,true,false,false,true,false,false,false,false,false,false,false,true,false,false] { tmps:=spT an aa al ak bn ba bl bk g1 g2 (.pointer (some ⟨g3,0,none⟩)) undef undef undef undef undef undef undef undef undef undef undef,defers:=[] } w':=by
   intro w' g3 hS b3 hg3
   rw [hG]
   refine wpAnyH_ready (rs:=[1,5]) (by kernel_rfl) (by simp) ?_
   refine AllReadyH.cons (o:=⟨some 9,.buildSlice 25 1 #[(0,.tmp 8)],25,"law.go:16",#[eD 0],none⟩) rfl (fun K hK=>?_) (AllReadyH.cons (o:=⟨some 13,.call { callee:=.value (.func 22),args:=#[.tmp 12],argTypes:=#[38] },38,"law.go:16",#[eD 4],none⟩) rfl (fun K hK=>?_) AllReadyH.nil)
   ·obtain ⟨wA,gA,HWA,HGA,bA,hb1⟩:=new_blk w' #[.bool an,.slice aa al ak] 38
    go_simp
    try (rw [HWA.out])
    try (rw [HGA.out])
    refine hK.out _ _ (kp4 hS hb1) (fun hS=>?_)
    clear hK K HWA HGA
    replace b3:=b3.below hb1 b3.lt
    ((try simp only [Act.put]); try simp only [List.setIfInBounds_toArray,List.set_cons_zero,List.set_cons_succ])
    refine tkH 3 ⟨some 11,.build 48 #[(0,.tmp 9),(1,.tmp 10)],48,"law.go:16",#[eD 1,eD 2],none⟩ hS ?_
    try simp only [Act.put,sB,sC,sD]
    rw [← hG]
    exact n1_15 _ gA g3 hS bA b3 hg3
   ·go_simp
    (go_at_call 22; (with_reducible refine (Neg_any _ (hA.below hS.2.2.2.2 (Nat.le_refl _)) (sm_small (by decide))).mono ?_); rintro e wN ⟨rN,rfl,hN,hb1⟩)
    obtain ⟨nn,na,nl,nk,rfl⟩:=hN.form
    go_wp2_with fail
    refine hK.out _ _ (kp4 hS hb1) (fun hS=>?_)
    clear hK K
    replace b3:=b3.below hb1 b3.lt
    ((try simp only [Act.put]); try simp only [List.setIfInBounds_toArray,List.set_cons_zero,List.set_cons_succ])
    rw [← hG]
    exact n5_15 _ nn na nl nk g3 hS hN b3 hg3
  have n:∀ (w':World) (hS:w'.cell? ⟨g1,0,none⟩ = some (.bool an) ∧ w'.cell? ⟨g1,1,none⟩ = some (.slice aa al ak) ∧ w'.cell? ⟨g2,0,none⟩ = some (.bool bn) ∧ w'.cell? ⟨g2,1,none⟩ = some (.slice ba bl bk) ∧ Below W.heap.size W w'),G 14 #[true,false,true,false,true,false,false,true,false,false,false,false,false,false,false,false,false,false] { tmps:=spT an aa al ak bn ba bl bk g1 g2 undef undef undef undef undef undef undef undef undef undef undef undef,defers:=[] } w':=by
   intro w'  hS 
   rw [hG]
   refine wpAnyH_ready (rs:=[1,5,15]) (by kernel_rfl) (by simp) ?_
   refine AllReadyH.cons (o:=⟨some 9,.buildSlice 25 1 #[(0,.tmp 8)],25,"law.go:16",#[eD 0],none⟩) rfl (fun K hK=>?_) (AllReadyH.cons (o:=⟨some 13,.call { callee:=.value (.func 22),args:=#[.tmp 12],argTypes:=#[38] },38,"law.go:16",#[eD 4],none⟩) rfl (fun K hK=>?_) (AllReadyH.cons (o:=⟨some 3,.alloc 28,0,"law.go:16",#[],none⟩) rfl (fun K hK=>?_) AllReadyH.nil))
   ·obtain ⟨wA,gA,HWA,HGA,bA,hb1⟩:=new_blk w' #[.bool an,.slice aa al ak] 38
    go_simp
    try (rw [HWA.out])
    try (rw [HGA.out])
    refine hK.out _ _ (kp4 hS hb1) (fun hS=>?_)
    clear hK K HWA HGA
    ((try simp only [Act.put]); try simp only [List.setIfInBounds_toArray,List.set_cons_zero,List.set_cons_succ])
    refine tkH 3 ⟨some 11,.build 48 #[(0,.tmp 9),(1,.tmp 10)],48,"law.go:16",#[eD 1,eD 2],none⟩ hS ?_
    try simp only [Act.put,sB,sC,sD]
    rw [← hG]
    exact n1 _ gA hS bA
   ·go_simp
    (go_at_call 22; (with_reducible refine (Neg_any _ (hA.below hS.2.2.2.2 (Nat.le_refl _)) (sm_small (by decide))).mono ?_); rintro e wN ⟨rN,rfl,hN,hb1⟩)
    obtain ⟨nn,na,nl,nk,rfl⟩:=hN.form
    go_wp2_with fail
    refine hK.out _ _ (kp4 hS hb1) (fun hS=>?_)
    clear hK K
    ((try simp only [Act.put]); try simp only [List.setIfInBounds_toArray,List.set_cons_zero,List.set_cons_succ])
    rw [← hG]
    exact n5 _ nn na nl nk hS hN
   ·have hg3:W.heap.size ≤ w'.heap.size:=hS.2.2.2.2.size
    obtain ⟨wA,g3,HWA,HG3,b3,hb1⟩:=new_blk w' #[.int .i64 0,.slice none 0 0,.slice none 0 0,.int .i64 0] 28
    go_simp
    try (rw [HWA.out])
    try (rw [HG3.out])
    refine hK.out _ _ (kp4 hS hb1) (fun hS=>?_)
    rw [HG3.out] at hg3
    clear hK K HWA HG3
    ((try simp only [Act.put]); try simp only [List.setIfInBounds_toArray,List.set_cons_zero,List.set_cons_succ])
    rw [← hG]
    exact n15 _ g3 hS b3 hg3
  rw [hG]
  ((try simp only [Act.put]); try simp only [List.setIfInBounds_toArray,List.set_cons_zero,List.set_cons_succ])
  refine tkH 0 ⟨some 8,.load 38 (.tmp 1),38,"law.go:16",#[],none⟩ hS ?_
  try simp only [Act.put,sB,sC,sD]
  refine tkH 2 ⟨some 10,.load 38 (.tmp 2),38,"law.go:16",#[],none⟩ hS ?_
  try simp only [Act.put,sB,sC,sD]
  refine tkH 4 ⟨some 12,.load 38 (.tmp 1),38,"law.go:16",#[],none⟩ hS ?_
  try simp only [Act.put,sB,sC,sD]
  refine tkH 7 ⟨some 15,.load 38 (.tmp 2),38,"law.go:16",#[],none⟩ hS ?_
  try simp only [Act.put,sB,sC,sD]
  rw [← hG]
  exact n _  hS 
 case rest=>
  obtain ⟨hB,rfl,g3,u,x,y,rfl,b3⟩:=hcut
  clear k0 k1 k2 k3
  obtain ⟨k0,k1,k2,k3,-⟩:=b3.c4
  go_wp2_with fail
  go_ret
  exact ⟨rfl,hB⟩
end Go.Proofs.Ytphjffbldhhdiaa
