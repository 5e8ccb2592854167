/- lia's back: by its contract. -/
import Derived.Test.YtphjffbldhhdiaaLiPop
namespace Go.Proofs.Ytphjffbldhhdiaa
open Go.RowKit

def BackPost (N:Nat) (w:World) (S:ISys) (st:LS) (L:LSp) (e:Ending) (w':World):Prop:=Below N w w' ∧ (backF st.forks st.floor st.top = none → e = .returned (.bool false) ∧ ∃ f vk,LiW N w' S ⟨f,st.top,[],st.need⟩ { L with vk:=vk }) ∧ ∀ ks f t,backF st.forks st.floor st.top = some (ks,f,t) → e = .returned (.bool true) ∧ ∃ vk,LiW N w' S ⟨f,t,ks,st.need⟩ { L with vk:=vk }
set_option maxRecDepth 100000 in
set_option maxHeartbeats 6400000 in
theorem back_any {N:Nat} {S:ISys} {st:LS} {L:LSp} (w:World) (h:LiW N w S st L) (hN:N ≤ w.heap.size) (hk:∀ k ∈ st.forks,k.v < S.n ∧ Sm k.fl) (hfl:st.forks.length ≤ 1000000) :
  Calls Try.prog 30 #[.pointer (some ⟨L.p,0,none⟩)] w (BackPost N w S st L):=by
 generalize hP:BackPost N w S st L = Post
 have HP:=hide hP
 have H:=hide h
 have HK:=hide hk
 obtain ⟨P,hLp⟩:∃ P,L.p = P:=⟨_,rfl⟩
 have HLP:=hide hLp
 clear hP h hk
 rw [hLp]
 clear hLp
 go_enter Try.func30,Try.ntmps30
 go_wp2_with fail
 go_loopg [2] st.forks.length (fun k v2 wr=>∃ (ks:List Fk) (f:Nat → Option Int) (vk:Value),k = ks.length ∧ v2 = .bool false ∧ ks.length ≤ 1000000 ∧ Hid (backF ks f st.top = backF st.forks st.floor st.top) ∧ Below N w wr ∧ Hid (∀ k ∈ ks,k.v < S.n ∧ Sm k.fl) ∧ Hid (LiW N wr S ⟨f,st.top,ks,st.need⟩ { L with vk:=vk }))
 case atStart=>exact ⟨st.forks,st.floor,L.vk,rfl,rfl,hfl,hide rfl,Below.refl _ _,HK,H⟩
 case round=>
  obtain ⟨ks,f,vk,rfl,rfl,hkl,HBF,hB,HKK,HW⟩:=hrel
  have p4:wr.cell? ⟨P,4,none⟩ = some vk:=by rw [← HLP.out]; exact HW.out.blk.cell 4
  cases ks with
  | nil=>
   obtain ⟨a,c,rfl⟩:∃ a c,vk = .slice a 0 c:=by
    rcases HW.out.fk.form with ⟨e,_⟩ | ⟨g,c,e,_⟩
    ·exact ⟨none,0,e⟩
    ·exact ⟨_,c,e⟩
   have HE:Hid (Post (.returned (.bool false)) wr):=hide (by
    rw [← HP.out]
    refine ⟨hB,fun _=>⟨rfl,f,_,HW.out⟩,fun ks f t e=>?_⟩
    rw [← HBF.out] at e
    cases e)
   clear HBF HKK HW
   go_wp2_with fail
   exact HE.out
  | cons k r=>
   have hrl:r.length + 1 ≤ 1000000:=hkl
   obtain ⟨g,cap,rfl,hCg,hkat⟩:∃ g cap,vk = .slice (some ⟨g,0,none⟩) (r.length + 1) cap ∧ CB wr g 84 (cap * 7) ∧ FkAt wr g (r.length * 7) k ∧ r.length + 1 ≤ cap:=by
    rcases HW.out.fk.form with ⟨_,e⟩ | ⟨g,c,e,_,hle,_,hC,hk⟩
    ·cases e
    ·exact ⟨g,c,e,hC,top_fork hk,hle⟩
   obtain ⟨hkat,hcap⟩:=hkat
   obtain ⟨hkv,hks⟩:=HKK.out k (List.mem_cons_self ..)
   obtain ⟨t0,⟨fn,fa,fll,fk,t1,t2,hfl0⟩,t3,ook,oz,t4,⟨om,oa,ol,oc,t5,t6,hoz⟩,hold⟩:=hkat
   obtain ⟨R,hR⟩:∃ R,r.length = R:=⟨_,rfl⟩
   have HR:=hide hR
   obtain ⟨kv,hkv0⟩:∃ kv,k.v = kv:=⟨_,rfl⟩
   have HKV:=hide hkv0
   rw [hR] at t0 t1 t2 t3 t4 t5 t6 p4 hrl hcap
   rw [hkv0] at t0 hkv
   clear hR hkv0
   have ekv:(kv:Int) < (S.n:Int):=by omega
   have eR0:(0:Int) < ((R + 1:Nat):Int):=by omega
   have eR2:IntKind.i64.wrap (R:Int) = (R:Int):=IntWalk.i64_in _ ⟨by omega,by omega⟩
   have eR3:(R:Int) < (R:Int) + 1:=by omega
   have eRc:R ≤ cap:=by omega
   obtain ⟨L2,hL2⟩:∃ L2,({ L with vk:=.slice (some ⟨g,0,none⟩) (R + 1) cap }:LSp) = L2:=⟨_,rfl⟩
   have HE2:=hide hL2
   have HP2:Hid (L2.p = P):=hide (by rw [← hL2]; exact HLP.out)
   have HV2:Hid (L2.vk = .slice (some ⟨g,0,none⟩) (r.length + 1) cap):=hide (by rw [← hL2,HR.out])
   have HWR:Hid (LiW N wr S ⟨f,st.top,k :: r,st.need⟩ L2):=hide (by rw [← hL2,← HR.out]; exact HW.out)
   have HOLD:=hide hold
   have HFL:=hide hfl0
   have HOZ:=hide hoz
   have HKS:=hide hks
   have HCG:=hide hCg
   have hNr:N ≤ wr.heap.size:=Nat.le_trans hN hB.size
   clear hold hfl0 hoz hks hCg hL2 HW
   go_upto_region 2 with (fail)
   refine wp_region_held_drew (S:=fun w'=>w'.cell? ⟨P,4,none⟩ = some (.slice (some ⟨g,0,none⟩) (R + 1) cap) ∧ Below wr.heap.size wr w') (by kernel_rfl) (⟨p4,(Below.refl _ _).drew⟩) (fun hS=>?_)
   refine tkH 0 ⟨some 10,.move (.tmp 0),59,"lia.go:142",#[],none⟩ hS ?_
   try simp only [Act.put,sB,sC,sD]
   refine tkH 1 ⟨some 11,.nilCheck (.tmp 10),0,"lia.go:142",#[eD 0],none⟩ hS ?_
   try simp only [Act.put,sB,sC,sD]
   refine tkH 2 ⟨some 12,.fieldAddr 80 (.tmp 11) 4,0,"lia.go:142",#[eD 1],none⟩ hS ?_
   try simp only [Act.put,sB,sC,sD]
   refine tkH 3 ⟨some 13,.load 77 (.tmp 12),77,"lia.go:142",#[eD 2],none⟩ hS ?_
   try simp only [Act.put,sB,sC,sD]
   refine tkH 4 ⟨some 14,.move (.tmp 0),59,"lia.go:142",#[],none⟩ hS ?_
   try simp only [Act.put,sB,sC,sD]
   refine tkH 5 ⟨some 15,.nilCheck (.tmp 14),0,"lia.go:142",#[eD 4],none⟩ hS ?_
   try simp only [Act.put,sB,sC,sD]
   refine tkH 6 ⟨some 16,.fieldAddr 80 (.tmp 15) 4,0,"lia.go:142",#[eD 5],none⟩ hS ?_
   try simp only [Act.put,sB,sC,sD]
   refine tkH 7 ⟨some 17,.load 77 (.tmp 16),77,"lia.go:142",#[eD 6],none⟩ hS ?_
   try simp only [Act.put,sB,sC,sD]
   refine tkH 8 ⟨some 18,.call { callee:=.builtin .len,args:=#[.tmp 17],argTypes:=#[77] },3,"lia.go:142",#[eD 7],none⟩ hS ?_
   try simp only [Act.put,sB,sC,sD]
   refine tkH 9 ⟨some 19,.binOp .sub 3 (.tmp 18) (.const (.int .i64 1)) 3,3,"lia.go:142",#[eD 8],none⟩ hS ?_
   try simp only [Act.put,sB,sC,sD]
   refine tkH 10 ⟨some 20,.indexAddr 77 (.tmp 13) (.tmp 19),0,"lia.go:142",#[eD 3,eD 9],none⟩ hS ?_
   try simp only [Act.put,sB,sC,sD]
   refine tkH 11 ⟨some 3,.assign (.tmp 20),115,"lia.go:142",#[eD 10,eP 0,eP 1,eP 2,eP 3,eP 4,eP 5,eP 6,eP 7,eP 8,eP 9,eP 10],none⟩ hS ?_
   try simp only [Act.put,sB,sC,sD]
   refine wpAnyH_done (by kernel_rfl) ?_ _
   obtain ⟨W1,hW1⟩:∃ W1,wr.drew = W1:=⟨_,rfl⟩
   rw [hW1] at hS ⊢
   clear hW1
   have hb1:=hS.2
   have HW1:Hid (LiW N W1 S ⟨f,st.top,k :: r,st.need⟩ L2):=hide (HWR.out.below hb1)
   have hB1:Below N w W1:=hB.trans (hb1.mono hNr)
   replace t0:=cellB t0 hb1 (Nat.le_refl _)
   replace t1:=cellB t1 hb1 (Nat.le_refl _)
   replace t2:=cellB t2 hb1 (Nat.le_refl _)
   replace t3:=cellB t3 hb1 (Nat.le_refl _)
   replace t4:=cellB t4 hb1 (Nat.le_refl _)
   replace t5:=cellB t5 hb1 (Nat.le_refl _)
   replace t6:=cellB t6 hb1 (Nat.le_refl _)
   replace p4:=hS.1
   have HFL1:Hid (IntV W1 (.agg #[.bool fn,.slice fa fll fk]) k.fl):=hide (HFL.out.below hb1 (Nat.le_refl _))
   have HOZ1:Hid (IntV W1 (.agg #[.bool om,.slice oa ol oc]) oz):=hide (HOZ.out.below hb1 (Nat.le_refl _))
   have HCG1:Hid (CB W1 g 84 (cap * 7)):=hide (HCG.out.below hb1 HCG.out.lt)
   have p2:W1.cell? ⟨P,2,none⟩ = some (.slice (some ⟨L2.gf,0,none⟩) S.n S.n):=by rw [← HP2.out]; exact HW1.out.blk.cell 2
   have p3:W1.cell? ⟨P,3,none⟩ = some (.slice (some ⟨L2.gt,0,none⟩) S.n S.n):=by rw [← HP2.out]; exact HW1.out.blk.cell 3
   clear hb1 hS hB HFL HOZ HCG HWR
   cases hu:k.up with
   | false=>
    rw [hu] at t3
    have HU:=hide hu
    clear hu
    go_upto_region 4 with (fail)
    refine wp_region_till (S:=fun w'=>w'.cell? ⟨P,3,none⟩ = some (.slice (some ⟨L2.gt,0,none⟩) S.n S.n) ∧ w'.cell? ⟨g,R * 7,none⟩ = some (.int .i64 (kv:Int)) ∧ w'.cell? ⟨g,R * 7 + 4,none⟩ = some (.bool ook) ∧ w'.cell? ⟨g,R * 7 + 4 + 1,none⟩ = some (.bool om) ∧ w'.cell? ⟨g,R * 7 + 4 + 1 + 1,none⟩ = some (.slice oa ol oc) ∧ Below W1.heap.size W1 w') (fun i=>decide (i < 12)) (by kernel_rfl) (⟨p3,t0,t4,t5,t6,(Below.refl _ _).drew⟩) (fun hS=>?_)
    obtain ⟨WD,hWD⟩:∃ WD,W1.drew = WD:=⟨_,rfl⟩
    rw [hWD] at hS ⊢
    (try rw [hWD] at hT)
    clear hWD
    refine tkT 0 ⟨some 26,.move (.tmp 0),59,"lia.go:144",#[],none⟩ hS ?_
    try simp only [Act.put,sB,sC,sD]
    refine tkT 1 ⟨some 27,.nilCheck (.tmp 26),0,"lia.go:144",#[eD 0],none⟩ hS ?_
    try simp only [Act.put,sB,sC,sD]
    refine tkT 2 ⟨some 28,.fieldAddr 80 (.tmp 27) 3,0,"lia.go:144",#[eD 1],none⟩ hS ?_
    try simp only [Act.put,sB,sC,sD]
    refine tkT 3 ⟨some 29,.load 78 (.tmp 28),78,"lia.go:144",#[eD 2],none⟩ hS ?_
    try simp only [Act.put,sB,sC,sD]
    refine tkT 4 ⟨some 30,.move (.tmp 3),115,"lia.go:144",#[],none⟩ hS ?_
    try simp only [Act.put,sB,sC,sD]
    refine tkT 5 ⟨some 31,.nilCheck (.tmp 30),0,"lia.go:144",#[eD 4],none⟩ hS ?_
    try simp only [Act.put,sB,sC,sD]
    refine tkT 6 ⟨some 32,.fieldAddr 84 (.tmp 31) 0,0,"lia.go:144",#[eD 5],none⟩ hS ?_
    try simp only [Act.put,sB,sC,sD]
    refine tkT 7 ⟨some 33,.load 3 (.tmp 32),3,"lia.go:144",#[eD 6],none⟩ hS ?_
    try simp only [Act.put,sB,sC,sD]
    refine tkT 8 ⟨some 34,.move (.tmp 3),115,"lia.go:144",#[],none⟩ hS ?_
    try simp only [Act.put,sB,sC,sD]
    refine tkT 9 ⟨some 35,.nilCheck (.tmp 34),0,"lia.go:144",#[eD 8],none⟩ hS ?_
    try simp only [Act.put,sB,sC,sD]
    refine tkT 10 ⟨some 36,.fieldAddr 84 (.tmp 35) 3,0,"lia.go:144",#[eD 9],none⟩ hS ?_
    try simp only [Act.put,sB,sC,sD]
    refine tkT 11 ⟨some 37,.load 82 (.tmp 36),82,"lia.go:144",#[eD 10],none⟩ hS ?_
    try simp only [Act.put,sB,sC,sD]
    refine Till_turn (by kernel_rfl) ?_
    refine tkH 12 ⟨some 38,.indexAddr 78 (.tmp 29) (.tmp 33),0,"lia.go:144",#[eD 3,eD 7,eP 0,eP 1,eP 2,eP 3,eP 4,eP 5,eP 6,eP 7,eP 8,eP 9,eP 10,eP 11],none⟩ trivial ?_
    try simp only [Act.put,sB,sC,sD]
    refine wpAnyH_ready (rs:=[13]) (by kernel_rfl) (by simp) ?_
    refine AllReadyH.cons (o:=⟨none,.store 82 (.tmp 38) (.tmp 37),0,"lia.go:144",#[eD 12,eD 11,eP 0,eP 1,eP 2,eP 3,eP 4,eP 5,eP 6,eP 7,eP 8,eP 9,eP 10,eP 11],none⟩) rfl (fun K hK=>?_) AllReadyH.nil
    have hbD:Below W1.heap.size W1 WD:=hS.2.2.2.2.2
    have hLD:=HW1.out.below hbD
    obtain ⟨_,_,z0,⟨_,_,_,_,z1,z2,-⟩,-⟩:=hLD.tp kv hkv
    replace z2:WD.cell? ⟨L2.gt,kv * 3 + 2,none⟩ = some _:=z2
    have f0:=hLD.tb.frozen (kv * 3)
    have f1:=hLD.tb.frozen (kv * 3 + 1)
    have f2:=hLD.tb.frozen (kv * 3 + 2)
    obtain ⟨W5,hW5⟩:∃ W5,putL L2.gt WD (kv * 3) [.bool ook,.bool om,.slice oa ol oc] = W5:=⟨_,rfl⟩
    have HL5:Hid (LiW N W5 S ⟨f,put st.top kv k.old,k :: r,st.need⟩ L2):=hide (by rw [← hW5,HOLD.out]; exact hLD.setTop hkv (HOZ1.out.below hbD (Nat.le_refl _)))
    have hB5:Below N w W5:=by rw [← hW5]; exact below_putL (hB1.trans (hbD.mono (Nat.le_trans hN hB1.size))) hLD.le.2.2.1
    have hgn:g ≠ L2.gt:=(hLD.kb g (by rw [HV2.out]; rfl)).2.2.1
    have HCG5:Hid (CB W5 g 84 (cap * 7)):=hide (by rw [← hW5]; exact (HCG1.out.below hbD HCG1.out.lt).putL_far hgn)
    replace t0:=(show W5.cell? _ = some _ from by rw [← hW5]; exact (cell_putL (.inl hgn)).trans (cellB t0 hbD (Nat.le_refl _)))
    replace t1:=(show W5.cell? _ = some _ from by rw [← hW5]; exact (cell_putL (.inl hgn)).trans (cellB t1 hbD (Nat.le_refl _)))
    replace t2:=(show W5.cell? _ = some _ from by rw [← hW5]; exact (cell_putL (.inl hgn)).trans (cellB t2 hbD (Nat.le_refl _)))
    replace t3:=(show W5.cell? _ = some _ from by rw [← hW5]; exact (cell_putL (.inl hgn)).trans (cellB t3 hbD (Nat.le_refl _)))
    replace t4:=(show W5.cell? _ = some _ from by rw [← hW5]; exact (cell_putL (.inl hgn)).trans (cellB t4 hbD (Nat.le_refl _)))
    replace t5:=(show W5.cell? _ = some _ from by rw [← hW5]; exact (cell_putL (.inl hgn)).trans (cellB t5 hbD (Nat.le_refl _)))
    replace t6:=(show W5.cell? _ = some _ from by rw [← hW5]; exact (cell_putL (.inl hgn)).trans (cellB t6 hbD (Nat.le_refl _)))
    have hu5:=bound_calm ook om oa ol oc
    have HFL5:Hid (IntV W5 (.agg #[.bool fn,.slice fa fll fk]) k.fl):=hide (by rw [← hW5]; exact (HFL1.out.below hbD (Nat.le_refl _)).putL hLD.tb hu5)
    have q2:W5.cell? ⟨P,2,none⟩ = some (.slice (some ⟨L2.gf,0,none⟩) S.n S.n):=by rw [← HP2.out]; exact HL5.out.blk.cell 2
    have q4:W5.cell? ⟨P,4,none⟩ = some (.slice (some ⟨g,0,none⟩) (R + 1) cap):=by rw [← HP2.out,← HR.out]; have e:=HL5.out.blk.cell 4; rw [HV2.out] at e; exact e
    simp only [putL] at hW5
    have HW5:=hide hW5
    clear hW5 hLD hbD
    go_simp
    refine hK.out _ _ trivial (fun _=>?_)
    clear hK K z0 z1 z2 f0 f1 f2
    try simp only [Act.put,sB,sC,sD]
    refine wpAnyH_done (by kernel_rfl) ?_ _
    rw [HW5.out]
    clear HW5 hS
    go_upto_region 5 with (fail)
    obtain ⟨nok,nz,n0,⟨nm,na,nl,nc,n1,n2,hnz⟩,hnew⟩:=HL5.out.fl kv hkv
    have HNZ:=hide hnz
    have HNEW:Hid (f kv = if nok = true then some nz else none):=hide hnew
    clear hnz hnew p2 p3
    have hT:Below W5.heap.size W5 W5.drew:=(Below.refl _ _).drew
    refine wp_region_held_drew (S:=fun w'=>w'.cell? ⟨P,2,none⟩ = some (.slice (some ⟨L2.gf,0,none⟩) S.n S.n) ∧ w'.cell? ⟨g,R * 7,none⟩ = some (.int .i64 (kv:Int)) ∧ w'.cell? ⟨L2.gf,kv * 3,none⟩ = some (.bool nok) ∧ w'.cell? ⟨L2.gf,kv * 3 + 1,none⟩ = some (.bool nm) ∧ w'.cell? ⟨L2.gf,kv * 3 + 1 + 1,none⟩ = some (.slice na nl nc)) (by kernel_rfl) (⟨q2,t0,n0,n1,n2⟩) (fun hS=>?_)
    obtain ⟨WD,hWD⟩:∃ WD,W5.drew = WD:=⟨_,rfl⟩
    rw [hWD] at hS hT ⊢
    clear hWD
    refine tkH 0 ⟨some 39,.move (.tmp 3),115,"lia.go:145",#[],none⟩ hS ?_
    try simp only [Act.put,sB,sC,sD]
    refine tkH 1 ⟨some 40,.move (.tmp 3),115,"lia.go:145",#[{ on:=14,ground:=Ground.gcOnly Departure.lateStores }],none⟩ hS ?_
    try simp only [Act.put,sB,sC,sD]
    refine tkH 2 ⟨some 41,.move (.tmp 0),59,"lia.go:145",#[],none⟩ hS ?_
    try simp only [Act.put,sB,sC,sD]
    refine tkH 3 ⟨some 42,.nilCheck (.tmp 41),0,"lia.go:145",#[eD 2],none⟩ hS ?_
    try simp only [Act.put,sB,sC,sD]
    refine tkH 4 ⟨some 43,.fieldAddr 80 (.tmp 42) 2,0,"lia.go:145",#[eD 3],none⟩ hS ?_
    try simp only [Act.put,sB,sC,sD]
    refine tkH 5 ⟨some 44,.load 78 (.tmp 43),78,"lia.go:145",#[eD 4],none⟩ hS ?_
    try simp only [Act.put,sB,sC,sD]
    refine tkH 6 ⟨some 45,.move (.tmp 3),115,"lia.go:145",#[],none⟩ hS ?_
    try simp only [Act.put,sB,sC,sD]
    refine tkH 7 ⟨some 46,.nilCheck (.tmp 45),0,"lia.go:145",#[eD 6],none⟩ hS ?_
    try simp only [Act.put,sB,sC,sD]
    refine tkH 8 ⟨some 47,.fieldAddr 84 (.tmp 46) 0,0,"lia.go:145",#[eD 7],none⟩ hS ?_
    try simp only [Act.put,sB,sC,sD]
    refine tkH 9 ⟨some 48,.load 3 (.tmp 47),3,"lia.go:145",#[eD 8],none⟩ hS ?_
    try simp only [Act.put,sB,sC,sD]
    refine tkH 10 ⟨some 49,.indexAddr 78 (.tmp 44) (.tmp 48),0,"lia.go:145",#[eD 5,eD 9],none⟩ hS ?_
    try simp only [Act.put,sB,sC,sD]
    refine tkH 11 ⟨some 50,.load 82 (.tmp 49),82,"lia.go:145",#[eD 10],none⟩ hS ?_
    try simp only [Act.put,sB,sC,sD]
    refine tkH 12 ⟨some 51,.nilCheck (.tmp 39),0,"lia.go:145",#[eD 0,eP 0,{ on:=1,ground:=Ground.textOnly Departure.lateStores },{ on:=2,ground:=Ground.textOnly Departure.lateStores },{ on:=3,ground:=Ground.textOnly Departure.lateStoresUnsure },{ on:=4,ground:=Ground.textOnly Departure.lateStoresUnsure },eP 5,{ on:=6,ground:=Ground.textOnly Departure.lateStores },{ on:=7,ground:=Ground.textOnly Departure.lateStoresUnsure },{ on:=8,ground:=Ground.textOnly Departure.lateStoresUnsure },eP 9,{ on:=10,ground:=Ground.textOnly Departure.lateStoresUnsure },eP 11],none⟩ hS ?_
    try simp only [Act.put,sB,sC,sD]
    refine tkH 13 ⟨some 52,.fieldAddr 84 (.tmp 51) 2,0,"lia.go:145",#[eD 12,eP 0,{ on:=1,ground:=Ground.textOnly Departure.lateStores },{ on:=2,ground:=Ground.textOnly Departure.lateStores },{ on:=3,ground:=Ground.textOnly Departure.lateStoresUnsure },{ on:=4,ground:=Ground.textOnly Departure.lateStoresUnsure },eP 5,{ on:=6,ground:=Ground.textOnly Departure.lateStores },{ on:=7,ground:=Ground.textOnly Departure.lateStoresUnsure },{ on:=8,ground:=Ground.textOnly Departure.lateStoresUnsure },eP 9,{ on:=10,ground:=Ground.textOnly Departure.lateStoresUnsure },eP 11],none⟩ hS ?_
    try simp only [Act.put,sB,sC,sD]
    refine wpAnyH_ready (rs:=[14]) (by kernel_rfl) (by simp) ?_
    refine AllReadyH.cons (o:=⟨none,.store 4 (.tmp 52) (.const (.bool true)),0,"lia.go:145",#[eD 13,eP 0,{ on:=1,ground:=Ground.textOnly Departure.lateStores },{ on:=2,ground:=Ground.textOnly Departure.lateStores },{ on:=3,ground:=Ground.textOnly Departure.lateStoresUnsure },{ on:=4,ground:=Ground.textOnly Departure.lateStoresUnsure },eP 5,{ on:=6,ground:=Ground.textOnly Departure.lateStores },{ on:=7,ground:=Ground.textOnly Departure.lateStoresUnsure },{ on:=8,ground:=Ground.textOnly Departure.lateStoresUnsure },eP 9,{ on:=10,ground:=Ground.textOnly Departure.lateStoresUnsure },eP 11],none⟩) rfl (fun K hK=>?_) AllReadyH.nil
    have hbD:Below W5.heap.size W5 WD:=hT
    have hLD:=HL5.out.below hbD
    have hCD:=HCG5.out.below hbD HCG5.out.lt
    replace t0:=cellB t0 hbD (Nat.le_refl _)
    replace t1:=cellB t1 hbD (Nat.le_refl _)
    replace t2:=cellB t2 hbD (Nat.le_refl _)
    have z0:=cellB t3 hbD (Nat.le_refl _)
    have z1:=cellB t4 hbD (Nat.le_refl _)
    have z2:WD.cell? ⟨g,R * 7 + 5,none⟩ = some _:=cellB t5 hbD (Nat.le_refl _)
    have z3:WD.cell? ⟨g,R * 7 + 6,none⟩ = some _:=cellB t6 hbD (Nat.le_refl _)
    have f0:=hCD.frozen (R * 7 + 3)
    have f1:=hCD.frozen (R * 7 + 4)
    have f2:=hCD.frozen (R * 7 + 5)
    have f3:=hCD.frozen (R * 7 + 6)
    obtain ⟨W7,hW7⟩:∃ W7,putL g WD (R * 7 + 3) [.bool true,.bool nok,.bool nm,.slice na nl nc] = W7:=⟨_,rfl⟩
    have hu7:=fork_calm true nok nm na nl nc
    have HL7:Hid (LiW N W7 S ⟨f,put st.top kv k.old,⟨k.v,k.fl,true,f kv⟩ :: r,st.need⟩ L2):=hide (by rw [← hW7,HNEW.out,← HR.out]; exact hLD.setUp HV2.out rfl (HNZ.out.below hbD (Nat.le_refl _)))
    have hB7:Below N w W7:=by rw [← hW7]; exact below_putL (hB5.trans (hbD.mono (Nat.le_trans hN hB5.size))) (hLD.fk.lt g (by rw [HV2.out]; rfl)).1
    replace t0:=(show W7.cell? _ = some _ from by rw [← hW7]; exact (cell_putL (x:=⟨g,R * 7,none⟩) (.inr (.inl (by show R * 7 < R * 7 + 3; omega)))).trans t0)
    replace t1:=(show W7.cell? _ = some _ from by rw [← hW7]; exact (cell_putL (x:=⟨g,R * 7 + 1,none⟩) (.inr (.inl (by show R * 7 + 1 < R * 7 + 3; omega)))).trans t1)
    replace t2:=(show W7.cell? _ = some _ from by rw [← hW7]; exact (cell_putL (x:=⟨g,R * 7 + 1 + 1,none⟩) (.inr (.inl (by show R * 7 + 1 + 1 < R * 7 + 3; omega)))).trans t2)
    have HFL7:Hid (IntV W7 (.agg #[.bool fn,.slice fa fll fk]) k.fl):=hide (by rw [← hW7]; exact (HFL5.out.below hbD (Nat.le_refl _)).putL hCD hu7)
    have p2:W7.cell? ⟨P,2,none⟩ = some (.slice (some ⟨L2.gf,0,none⟩) S.n S.n):=by rw [← HP2.out]; exact HL7.out.blk.cell 2
    simp only [putL] at hW7
    have HW7:=hide hW7
    have hPg:g ≠ P:=by rw [← HP2.out]; exact (hLD.kb g (by rw [HV2.out]; rfl)).1
    have hFg:g ≠ L2.gf:=(hLD.kb g (by rw [HV2.out]; rfl)).2.1
    have hn:W7.cell? ⟨L2.gf,kv * 3,none⟩ = some (.bool nok) ∧ W7.cell? ⟨L2.gf,kv * 3 + 1,none⟩ = some (.bool nm) ∧ W7.cell? ⟨L2.gf,kv * 3 + 1 + 1,none⟩ = some (.slice na nl nc):=by rw [← HW7.out]; exact ⟨(cell_putL (vs:=[.bool true,.bool nok,.bool nm,.slice na nl nc]) (o:=R * 7 + 3) (.inl (fun e=>hFg e.symm))).trans hS.2.2.1,(cell_putL (vs:=[.bool true,.bool nok,.bool nm,.slice na nl nc]) (o:=R * 7 + 3) (.inl (fun e=>hFg e.symm))).trans hS.2.2.2.1,(cell_putL (vs:=[.bool true,.bool nok,.bool nm,.slice na nl nc]) (o:=R * 7 + 3) (.inl (fun e=>hFg e.symm))).trans hS.2.2.2.2⟩
    have hs14:∀ b i u,(b ≠ g ∨ i ≠ R * 7 + 3) → WD.cell? ⟨b,i,none⟩ = some u → (WD.setCell ⟨g,R * 7 + 3,none⟩ (.bool true)).cell? ⟨b,i,none⟩ = some u:=fun b i u hne hu=>(World.cell?_setCell_other _ _ _ _ (fun e=>hne.elim (fun h=>h (congrArg Addr.block e).symm) (fun h=>h (congrArg Addr.off e).symm))).trans hu
    clear hW7 hLD hCD hbD q4 HL5 HFL5
    go_simp
    refine hK.out _ _ ⟨hs14 _ _ _ (.inl (fun e=>hPg e.symm)) hS.1,hs14 _ _ _ (.inr (by omega)) hS.2.1,hs14 _ _ _ (.inl (fun e=>hFg e.symm)) hS.2.2.1,hs14 _ _ _ (.inl (fun e=>hFg e.symm)) hS.2.2.2.1,hs14 _ _ _ (.inl (fun e=>hFg e.symm)) hS.2.2.2.2⟩ (fun hS=>?_)
    clear hK K hs14
    try simp only [Act.put,sB,sC,sD]
    refine tkH 15 ⟨some 53,.nilCheck (.tmp 40),0,"lia.go:145",#[eD 1,eP 0,eP 1,eP 2,eP 3,eP 4,eP 5,eP 6,eP 7,eP 8,eP 9,eP 10,eP 11,eP 12,eP 13,eP 14],none⟩ hS ?_
    try simp only [Act.put,sB,sC,sD]
    refine tkH 16 ⟨some 54,.fieldAddr 84 (.tmp 53) 3,0,"lia.go:145",#[eD 15,eP 0,eP 1,eP 2,eP 3,eP 4,eP 5,eP 6,eP 7,eP 8,eP 9,eP 10,eP 11,eP 12,eP 13,eP 14],none⟩ hS ?_
    try simp only [Act.put,sB,sC,sD]
    refine wpAnyH_ready (rs:=[17]) (by kernel_rfl) (by simp) ?_
    refine AllReadyH.cons (o:=⟨none,.store 82 (.tmp 54) (.tmp 50),0,"lia.go:145",#[eD 16,eD 11,eC 14,eP 0,eP 1,eP 2,eP 3,eP 4,eP 5,eP 6,eP 7,eP 8,eP 9,eP 10,eP 11,eP 12,eP 13,eP 14],none⟩) rfl (fun K hK=>?_) AllReadyH.nil
    go_simp
    refine hK.out _ _ (by rw [HW7.out]; exact ⟨p2,t0,hn.1,hn.2.1,hn.2.2⟩) (fun hS=>?_)
    clear hK K hn z0 z1 z2 z3 f0 f1 f2 f3 t3 t4 t5 t6
    try simp only [Act.put,sB,sC,sD]
    refine wpAnyH_done (by kernel_rfl) ?_ _
    rw [HW7.out]
    clear HW7 hS
    go_upto_region 6 with (fail)
    have hks1:Sm k.fl:=HKS.out
    refine wp_region_till (S:=fun w'=>w'.cell? ⟨P,2,none⟩ = some (.slice (some ⟨L2.gf,0,none⟩) S.n S.n) ∧ w'.cell? ⟨g,R * 7,none⟩ = some (.int .i64 (kv:Int)) ∧ w'.cell? ⟨g,R * 7 + 1,none⟩ = some (.bool fn) ∧ w'.cell? ⟨g,R * 7 + 1 + 1,none⟩ = some (.slice fa fll fk) ∧ Below W7.heap.size W7 w') (fun i=>decide (i < 15)) (by kernel_rfl) (⟨p2,t0,t1,t2,(Below.refl _ _).drew⟩) (fun hS=>?_)
    refine tkT 0 ⟨some 55,.move (.tmp 0),59,"lia.go:146",#[],none⟩ hS ?_
    try simp only [Act.put,sB,sC,sD]
    refine tkT 1 ⟨some 56,.nilCheck (.tmp 55),0,"lia.go:146",#[eD 0],none⟩ hS ?_
    try simp only [Act.put,sB,sC,sD]
    refine tkT 2 ⟨some 57,.fieldAddr 80 (.tmp 56) 2,0,"lia.go:146",#[eD 1],none⟩ hS ?_
    try simp only [Act.put,sB,sC,sD]
    refine tkT 3 ⟨some 58,.load 78 (.tmp 57),78,"lia.go:146",#[eD 2],none⟩ hS ?_
    try simp only [Act.put,sB,sC,sD]
    refine tkT 4 ⟨some 59,.move (.tmp 3),115,"lia.go:146",#[],none⟩ hS ?_
    try simp only [Act.put,sB,sC,sD]
    refine tkT 5 ⟨some 60,.nilCheck (.tmp 59),0,"lia.go:146",#[eD 4],none⟩ hS ?_
    try simp only [Act.put,sB,sC,sD]
    refine tkT 6 ⟨some 61,.fieldAddr 84 (.tmp 60) 0,0,"lia.go:146",#[eD 5],none⟩ hS ?_
    try simp only [Act.put,sB,sC,sD]
    refine tkT 7 ⟨some 62,.load 3 (.tmp 61),3,"lia.go:146",#[eD 6],none⟩ hS ?_
    try simp only [Act.put,sB,sC,sD]
    refine tkT 8 ⟨some 63,.move (.tmp 3),115,"lia.go:146",#[],none⟩ hS ?_
    try simp only [Act.put,sB,sC,sD]
    refine tkT 9 ⟨some 64,.nilCheck (.tmp 63),0,"lia.go:146",#[eD 8],none⟩ hS ?_
    try simp only [Act.put,sB,sC,sD]
    refine tkT 10 ⟨some 65,.fieldAddr 84 (.tmp 64) 1,0,"lia.go:146",#[eD 9],none⟩ hS ?_
    try simp only [Act.put,sB,sC,sD]
    refine tkT 11 ⟨some 66,.load 38 (.tmp 65),38,"lia.go:146",#[eD 10],none⟩ hS ?_
    try simp only [Act.put,sB,sC,sD]
    refine Till_ready (rs:=[12]) (by kernel_rfl) (by kernel_rfl) (by simp) ?_
    refine AllReadyT.cons (o:=⟨some 67,.call { callee:=.value (.func 21),args:=#[.const (.int .i64 1)],argTypes:=#[2] },38,"lia.go:146",#[],none⟩) rfl (fun K hK=>?_) AllReadyT.nil
    go_simp
    (go_at_call 21; (with_reducible refine (Of_any 1 _ (by decide) (by decide)).mono ?_); rintro e wA ⟨rA,rfl,hA,hb1⟩)
    obtain ⟨an,aa,al,ak,rfl⟩:=hA.form
    have hwA:=hS.2.2.2.2.trans (hb1.mono hS.2.2.2.2.size)
    have hFA:=HFL7.out.below hwA (Nat.le_refl _)
    go_wp2_with fail
    refine hK.out _ _ ((kp4 hS hb1)) (fun hS=>?_)
    clear hK K hb1
    try simp only [Act.put,sB,sC,sD]
    refine Till_ready (rs:=[13]) (by kernel_rfl) (by kernel_rfl) (by simp) ?_
    refine AllReadyT.cons (o:=⟨some 68,.call { callee:=.value (.func 17),args:=#[.tmp 66,.tmp 67],argTypes:=#[38,38] },38,"lia.go:146",#[eD 11,eD 12,eC 12],none⟩) rfl (fun K hK=>?_) AllReadyT.nil
    go_simp
    (go_at_call 17; (with_reducible refine (Add_any _ hFA hA hks1 (sm_small (by decide))).mono ?_); rintro e wC ⟨rC,rfl,hC,hb1⟩)
    obtain ⟨cn,ca,cl,ck,rfl⟩:=hC.form
    go_wp2_with fail
    refine hK.out _ _ ((kp4 hS hb1)) (fun hS=>?_)
    clear hK K hb1
    try simp only [Act.put,sB,sC,sD]
    refine tkT 14 ⟨some 69,.build 82 #[(0,.const (.bool true)),(1,.tmp 68)],82,"lia.go:146",#[eD 13],none⟩ hS ?_
    try simp only [Act.put,sB,sC,sD]
    refine Till_turn (by kernel_rfl) ?_
    refine tkH 15 ⟨some 70,.indexAddr 78 (.tmp 58) (.tmp 62),0,"lia.go:146",#[eD 3,eD 7,eP 0,eP 1,eP 2,eP 3,eP 4,eP 5,eP 6,eP 7,eP 8,eP 9,eP 10,eP 11,eP 12,eP 13,eP 14],none⟩ trivial ?_
    try simp only [Act.put,sB,sC,sD]
    refine wpAnyH_ready (rs:=[16]) (by kernel_rfl) (by simp) ?_
    refine AllReadyH.cons (o:=⟨none,.store 82 (.tmp 70) (.tmp 69),0,"lia.go:146",#[eD 15,eD 14,eC 13,eP 0,eP 1,eP 2,eP 3,eP 4,eP 5,eP 6,eP 7,eP 8,eP 9,eP 10,eP 11,eP 12,eP 13,eP 14],none⟩) rfl (fun K hK=>?_) AllReadyH.nil
    have hbD:Below W7.heap.size W7 wC:=hS.2.2.2.2
    have hLD:=HL7.out.below hbD
    obtain ⟨_,_,z0,⟨_,_,_,_,z1,z2,-⟩,-⟩:=hLD.fl kv hkv
    replace z2:wC.cell? ⟨L2.gf,kv * 3 + 2,none⟩ = some _:=z2
    have f0:=hLD.fb.frozen (kv * 3)
    have f1:=hLD.fb.frozen (kv * 3 + 1)
    have f2:=hLD.fb.frozen (kv * 3 + 2)
    obtain ⟨W9,hW9⟩:∃ W5,putL L2.gf wC (kv * 3) [.bool true,.bool cn,.slice ca cl ck] = W5:=⟨_,rfl⟩
    have HL9:Hid (LiW N W9 S ⟨put f kv (some (k.fl + 1)),put st.top kv k.old,⟨k.v,k.fl,true,f kv⟩ :: r,st.need⟩ L2):=hide (by rw [← hW9]; have hx:=hLD.setFloor (ok:=true) hkv hC; rw [if_pos rfl] at hx; exact hx)
    have hB9:Below N w W9:=by rw [← hW9]; exact below_putL (hB7.trans (hbD.mono (Nat.le_trans hN hB7.size))) hLD.le.2.1
    simp only [putL] at hW9
    have HW9:=hide hW9
    clear hW9 hLD hbD HL7
    go_simp
    refine hK.out _ _ trivial (fun _=>?_)
    clear hK K z0 z1 z2 f0 f1 f2
    try simp only [Act.put,sB,sC,sD]
    refine wpAnyH_done (by kernel_rfl) ?_ _
    rw [HW9.out]
    clear HW9 hS
    have HE:Hid (Post (.returned (.bool true)) W9):=hide (by
     rw [← HP.out]
     refine ⟨hB9,fun e=>?_,fun ks f' t' e=>⟨rfl,.slice (some ⟨g,0,none⟩) (R + 1) cap,?_⟩⟩
     ·rw [← HBF.out] at e
      unfold backF at e
      rw [if_neg (by rw [HU.out]; simp)] at e
      cases e
     ·rw [← HBF.out] at e
      unfold backF at e
      rw [if_neg (by rw [HU.out]; simp)] at e
      injection e with e
      injection e with e1 e
      injection e with e2 e3
      subst e1 e2 e3
      have hx:=HL9.out
      rw [← HKV.out] at hx
      rw [← HE2.out] at hx
      exact hx)
    clear HL9 HBF
    go_wp2_with fail
    exact HE.out
   | true=>
    rw [hu] at t3
    have HU:=hide hu
    clear hu
    go_upto_region 8 with (fail)
    refine wp_region_till (S:=fun w'=>w'.cell? ⟨P,2,none⟩ = some (.slice (some ⟨L2.gf,0,none⟩) S.n S.n) ∧ w'.cell? ⟨g,R * 7,none⟩ = some (.int .i64 (kv:Int)) ∧ w'.cell? ⟨g,R * 7 + 4,none⟩ = some (.bool ook) ∧ w'.cell? ⟨g,R * 7 + 4 + 1,none⟩ = some (.bool om) ∧ w'.cell? ⟨g,R * 7 + 4 + 1 + 1,none⟩ = some (.slice oa ol oc) ∧ Below W1.heap.size W1 w') (fun i=>decide (i < 12)) (by kernel_rfl) (⟨p2,t0,t4,t5,t6,(Below.refl _ _).drew⟩) (fun hS=>?_)
    obtain ⟨WD,hWD⟩:∃ WD,W1.drew = WD:=⟨_,rfl⟩
    rw [hWD] at hS ⊢
    (try rw [hWD] at hT)
    clear hWD
    refine tkT 0 ⟨some 71,.move (.tmp 0),59,"lia.go:149",#[],none⟩ hS ?_
    try simp only [Act.put,sB,sC,sD]
    refine tkT 1 ⟨some 72,.nilCheck (.tmp 71),0,"lia.go:149",#[eD 0],none⟩ hS ?_
    try simp only [Act.put,sB,sC,sD]
    refine tkT 2 ⟨some 73,.fieldAddr 80 (.tmp 72) 2,0,"lia.go:149",#[eD 1],none⟩ hS ?_
    try simp only [Act.put,sB,sC,sD]
    refine tkT 3 ⟨some 74,.load 78 (.tmp 73),78,"lia.go:149",#[eD 2],none⟩ hS ?_
    try simp only [Act.put,sB,sC,sD]
    refine tkT 4 ⟨some 75,.move (.tmp 3),115,"lia.go:149",#[],none⟩ hS ?_
    try simp only [Act.put,sB,sC,sD]
    refine tkT 5 ⟨some 76,.nilCheck (.tmp 75),0,"lia.go:149",#[eD 4],none⟩ hS ?_
    try simp only [Act.put,sB,sC,sD]
    refine tkT 6 ⟨some 77,.fieldAddr 84 (.tmp 76) 0,0,"lia.go:149",#[eD 5],none⟩ hS ?_
    try simp only [Act.put,sB,sC,sD]
    refine tkT 7 ⟨some 78,.load 3 (.tmp 77),3,"lia.go:149",#[eD 6],none⟩ hS ?_
    try simp only [Act.put,sB,sC,sD]
    refine tkT 8 ⟨some 79,.move (.tmp 3),115,"lia.go:149",#[],none⟩ hS ?_
    try simp only [Act.put,sB,sC,sD]
    refine tkT 9 ⟨some 80,.nilCheck (.tmp 79),0,"lia.go:149",#[eD 8],none⟩ hS ?_
    try simp only [Act.put,sB,sC,sD]
    refine tkT 10 ⟨some 81,.fieldAddr 84 (.tmp 80) 3,0,"lia.go:149",#[eD 9],none⟩ hS ?_
    try simp only [Act.put,sB,sC,sD]
    refine tkT 11 ⟨some 82,.load 82 (.tmp 81),82,"lia.go:149",#[eD 10],none⟩ hS ?_
    try simp only [Act.put,sB,sC,sD]
    refine Till_turn (by kernel_rfl) ?_
    refine tkH 12 ⟨some 83,.indexAddr 78 (.tmp 74) (.tmp 78),0,"lia.go:149",#[eD 3,eD 7,eP 0,eP 1,eP 2,eP 3,eP 4,eP 5,eP 6,eP 7,eP 8,eP 9,eP 10,eP 11],none⟩ trivial ?_
    try simp only [Act.put,sB,sC,sD]
    refine wpAnyH_ready (rs:=[13]) (by kernel_rfl) (by simp) ?_
    refine AllReadyH.cons (o:=⟨none,.store 82 (.tmp 83) (.tmp 82),0,"lia.go:149",#[eD 12,eD 11,eP 0,eP 1,eP 2,eP 3,eP 4,eP 5,eP 6,eP 7,eP 8,eP 9,eP 10,eP 11],none⟩) rfl (fun K hK=>?_) AllReadyH.nil
    have hbD:Below W1.heap.size W1 WD:=hS.2.2.2.2.2
    have hLD:=HW1.out.below hbD
    obtain ⟨_,_,z0,⟨_,_,_,_,z1,z2,-⟩,-⟩:=hLD.fl kv hkv
    replace z2:WD.cell? ⟨L2.gf,kv * 3 + 2,none⟩ = some _:=z2
    have f0:=hLD.fb.frozen (kv * 3)
    have f1:=hLD.fb.frozen (kv * 3 + 1)
    have f2:=hLD.fb.frozen (kv * 3 + 2)
    obtain ⟨W5,hW5⟩:∃ W5,putL L2.gf WD (kv * 3) [.bool ook,.bool om,.slice oa ol oc] = W5:=⟨_,rfl⟩
    have HL5:Hid (LiW N W5 S ⟨put f kv k.old,st.top,k :: r,st.need⟩ L2):=hide (by rw [← hW5,HOLD.out]; exact hLD.setFloor hkv (HOZ1.out.below hbD (Nat.le_refl _)))
    have hB5:Below N w W5:=by rw [← hW5]; exact below_putL (hB1.trans (hbD.mono (Nat.le_trans hN hB1.size))) hLD.le.2.1
    have hgn:g ≠ L2.gf:=(hLD.kb g (by rw [HV2.out]; rfl)).2.1
    have HCG5:Hid (CB W5 g 84 (cap * 7)):=hide (by rw [← hW5]; exact (HCG1.out.below hbD HCG1.out.lt).putL_far hgn)
    have q4:W5.cell? ⟨P,4,none⟩ = some (.slice (some ⟨g,0,none⟩) (R + 1) cap):=by rw [← HP2.out,← HR.out]; have e:=HL5.out.blk.cell 4; rw [HV2.out] at e; exact e
    simp only [putL] at hW5
    have HW5:=hide hW5
    clear hW5 hLD hbD
    go_simp
    refine hK.out _ _ trivial (fun _=>?_)
    clear hK K z0 z1 z2 f0 f1 f2
    try simp only [Act.put,sB,sC,sD]
    refine wpAnyH_done (by kernel_rfl) ?_ _
    rw [HW5.out]
    clear HW5 hS
    go_upto_region 9 with (fail)
    refine wp_region_till (S:=fun w'=>w'.cell? ⟨P,4,none⟩ = some (.slice (some ⟨g,0,none⟩) (R + 1) cap) ∧ Below W5.heap.size W5 w') (fun i=>decide (i < 12)) (by kernel_rfl) (⟨q4,(Below.refl _ _).drew⟩) (fun hS=>?_)
    obtain ⟨WD,hWD⟩:∃ WD,W5.drew = WD:=⟨_,rfl⟩
    rw [hWD] at hS ⊢
    (try rw [hWD] at hT)
    clear hWD
    refine tkT 0 ⟨some 84,.move (.tmp 0),59,"lia.go:150",#[],none⟩ hS ?_
    try simp only [Act.put,sB,sC,sD]
    refine tkT 1 ⟨some 85,.move (.tmp 0),59,"lia.go:150",#[],none⟩ hS ?_
    try simp only [Act.put,sB,sC,sD]
    refine tkT 2 ⟨some 86,.nilCheck (.tmp 85),0,"lia.go:150",#[eD 1],none⟩ hS ?_
    try simp only [Act.put,sB,sC,sD]
    refine tkT 3 ⟨some 87,.fieldAddr 80 (.tmp 86) 4,0,"lia.go:150",#[eD 2],none⟩ hS ?_
    try simp only [Act.put,sB,sC,sD]
    refine tkT 4 ⟨some 88,.load 77 (.tmp 87),77,"lia.go:150",#[eD 3],none⟩ hS ?_
    try simp only [Act.put,sB,sC,sD]
    refine tkT 5 ⟨some 89,.move (.tmp 0),59,"lia.go:150",#[],none⟩ hS ?_
    try simp only [Act.put,sB,sC,sD]
    refine tkT 6 ⟨some 90,.nilCheck (.tmp 89),0,"lia.go:150",#[eD 5],none⟩ hS ?_
    try simp only [Act.put,sB,sC,sD]
    refine tkT 7 ⟨some 91,.fieldAddr 80 (.tmp 90) 4,0,"lia.go:150",#[eD 6],none⟩ hS ?_
    try simp only [Act.put,sB,sC,sD]
    refine tkT 8 ⟨some 92,.load 77 (.tmp 91),77,"lia.go:150",#[eD 7],none⟩ hS ?_
    try simp only [Act.put,sB,sC,sD]
    refine tkT 9 ⟨some 93,.call { callee:=.builtin .len,args:=#[.tmp 92],argTypes:=#[77] },3,"lia.go:150",#[eD 8],none⟩ hS ?_
    try simp only [Act.put,sB,sC,sD]
    refine tkT 10 ⟨some 94,.binOp .sub 3 (.tmp 93) (.const (.int .i64 1)) 3,3,"lia.go:150",#[eD 9],none⟩ hS ?_
    try simp only [Act.put,sB,sC,sD]
    refine tkT 11 ⟨some 95,.slice 77 (.tmp 88) none (some (.tmp 94)) none,77,"lia.go:150",#[eD 4,eD 10],none⟩ hS ?_
    try simp only [Act.put,sB,sC,sD]
    refine Till_turn (by kernel_rfl) ?_
    refine tkH 12 ⟨some 96,.nilCheck (.tmp 84),0,"lia.go:150",#[eD 0,eP 0,eP 1,eP 2,eP 3,eP 4,eP 5,eP 6,eP 7,eP 8,eP 9,eP 10,eP 11],none⟩ trivial ?_
    try simp only [Act.put,sB,sC,sD]
    refine tkH 13 ⟨some 97,.fieldAddr 80 (.tmp 96) 4,0,"lia.go:150",#[eD 12,eP 0,eP 1,eP 2,eP 3,eP 4,eP 5,eP 6,eP 7,eP 8,eP 9,eP 10,eP 11],none⟩ trivial ?_
    try simp only [Act.put,sB,sC,sD]
    refine wpAnyH_ready (rs:=[14]) (by kernel_rfl) (by simp) ?_
    refine AllReadyH.cons (o:=⟨none,.store 77 (.tmp 97) (.tmp 95),0,"lia.go:150",#[eD 13,eD 11,eP 0,eP 1,eP 2,eP 3,eP 4,eP 5,eP 6,eP 7,eP 8,eP 9,eP 10,eP 11],none⟩) rfl (fun K hK=>?_) AllReadyH.nil
    have hbD:Below W5.heap.size W5 WD:=hS.2
    have hLD:=HL5.out.below hbD
    have z0:WD.cell? ⟨P,4,none⟩ = some (.slice (some ⟨g,0,none⟩) (R + 1) cap):=hS.1
    have f0:WD.frozen? ⟨P,4,none⟩ = false:=by rw [← HP2.out]; exact hLD.blk.frozen 4
    obtain ⟨W7,hW7⟩:∃ W7,WD.setCell ⟨P,4,none⟩ (.slice (some ⟨g,0,none⟩) R cap) = W7:=⟨_,rfl⟩
    have HL7:Hid (LiW N W7 S ⟨put f kv k.old,st.top,r,st.need⟩ { L with vk:=.slice (some ⟨g,0,none⟩) R cap }):=hide (by rw [← hW7,← HP2.out]; have hx:=hLD.pop HV2.out rfl; rw [HR.out] at hx; rw [← HE2.out] at hx ⊢; exact hx)
    have hB7:Below N w W7:=by rw [← hW7,← HP2.out]; exact (hB5.trans (hbD.mono (Nat.le_trans hN hB5.size))).setCell hLD.le.1 _
    have HW7:=hide hW7
    clear hW7 hLD hbD
    go_simp
    refine hK.out _ _ trivial (fun _=>?_)
    clear hK K z0 f0
    try simp only [Act.put,sB,sC,sD]
    refine wpAnyH_done (by kernel_rfl) ?_ _
    rw [HW7.out]
    clear HW7 hS
    go_wp2_with fail
    go_roundg r.length
    case measure=>simp
    case rel=>exact ⟨r,put f kv k.old,.slice (some ⟨g,0,none⟩) R cap,rfl,rfl,by have:=HR.out; omega,hide (by
      have e:backF (k :: r) f st.top = backF r (put f k.v k.old) st.top:=by rw [backF,if_pos HU.out]
      rw [← HBF.out,← HKV.out,e]),hB7,hide (fun k' hk'=>HKK.out k' (List.mem_cons_of_mem _ hk')),HL7⟩
end Go.Proofs.Ytphjffbldhhdiaa
