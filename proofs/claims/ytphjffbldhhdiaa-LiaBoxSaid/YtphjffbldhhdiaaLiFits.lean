/- collatorref18.Fits: by its contract. -/
import Derived.Test.YtphjffbldhhdiaaLiNew
namespace Go.Proofs.Ytphjffbldhhdiaa
open Go.RowKit

def NumAt (w:World) (g o:Nat) (z:Int):Prop:=∃ (n:Bool) (a:Option Addr) (l k:Nat),w.cell? ⟨g,o,none⟩ = some (.bool n) ∧ w.cell? ⟨g,o + 1,none⟩ = some (.slice a l k) ∧ NumV w (.agg #[.bool n,.slice a l k]) z
def NListAt (w:World) (a:Option Addr) (vs:List Int):Prop:=0 < vs.length → ∃ b o,a = some ⟨b,o,none⟩ ∧ ∀ i (h:i < vs.length),NumAt w b (o + i * 2) vs[i]
theorem NumAt.below {w w':World} {g o B:Nat} {z:Int} (h:NumAt w g o z) (hb:Below B w w') (hB:w.heap.size ≤ B):NumAt w' g o z:=by
 obtain ⟨n,a,l,k,h0,h1,h2⟩:=h
 exact ⟨n,a,l,k,cellB h0 hb hB,cellB h1 hb hB,h2.below hb hB⟩
theorem NListAt.below {w w':World} {B:Nat} {a:Option Addr} {vs:List Int} (h:NListAt w a vs) (hb:Below B w w') (hB:w.heap.size ≤ B):NListAt w' a vs:=fun h0=>by
 obtain ⟨b,o,e,h1⟩:=h h0
 exact ⟨b,o,e,fun i hi=>(h1 i hi).below hb hB⟩
def nthI (vs:List Int) (c:Nat):Int:=(vs[c]?).getD 0
theorem nthI_at {vs:List Int} {c:Nat} (h:c < vs.length):nthI vs c = vs[c]:=by
 unfold nthI
 rw [List.getElem?_eq_getElem h]
 rfl
def fitZ (rs:List LRow) (vs:List Int) (i:Nat):Int:=sumI vs.length fun c=>timesZ rs i c * nthI vs c
def fitsB (rs:List LRow) (vs:List Int):Bool:=(List.range rs.length).all fun i=>decide (fitZ rs vs i ≤ mostZ rs i)
theorem fitsB_true {rs:List LRow} {vs:List Int} (h:∀ i,i < rs.length → fitZ rs vs i ≤ mostZ rs i):fitsB rs vs = true:=List.all_eq_true.2 fun i hi=>decide_eq_true (h i (List.mem_range.1 hi))
theorem fitsB_false {rs:List LRow} {vs:List Int} {i:Nat} (hi:i < rs.length) (h:mostZ rs i < fitZ rs vs i):fitsB rs vs = false:=List.all_eq_false.2 ⟨i,List.mem_range.2 hi,by simp; omega⟩
theorem sum_len {f:Nat → Int} {B:Nat} (h:∀ c,len (f c) ≤ B):∀ n,len (sumI n f) ≤ B + n
 | 0=>by show len 0 ≤ _; exact Nat.zero_le _
 | n + 1=>by
  have h1:=len_add (sumI n f) (f n)
  have h2:=sum_len h n
  have h3:=h n
  show len (sumI n f + f n) ≤ B + (n + 1)
  omega
set_option maxRecDepth 100000 in
set_option maxHeartbeats 12800000 in
theorem ifits_any {a1:Option Addr} {c1:Nat} {rs:List LRow} {b:Option Addr} {cb:Nat} {vs:List Int} (w:World) (hx:IRowsAt w a1 rs) (hv:NListAt w b vs) (hr:rightI (vs.length:Int) rs = true) (hs:∀ r ∈ rs,r.sz 1) (hl:vs.length ≤ 4) (hvl:∀ v ∈ vs,len v ≤ 100000000) (hm:rs.length ≤ 40) {res:Bool} (hres:fitsB rs vs = res) :
  Calls Try.prog 15 #[.slice a1 rs.length c1,.slice b vs.length cb] w fun e w'=>e = .returned (.bool res) ∧ Below w.heap.size w w':=by
 have HX:=hide hx
 have HV:=hide hv
 have HR:=hide hr
 have HS:=hide hs
 have HRES:=hide hres
 have hln:∀ c,len (nthI vs c) ≤ 100000000:=fun c=>by
  by_cases hc:c < vs.length
  ·rw [nthI_at hc]; exact hvl _ (List.getElem_mem hc)
  ·unfold nthI; rw [List.getElem?_eq_none (by omega)]; exact Nat.zero_le _
 have HLN:=hide hln
 obtain ⟨n,hn⟩:∃ n,vs.length = n:=⟨_,rfl⟩
 have HN:=hide hn
 rw [hn] at hl ⊢
 clear hx hv hr hs hres hvl hln hn
 go_enter Try.func15,Try.ntmps15
 go_wp2_with fail
 go_loopg [5] rs.length (fun k v5 wr=>∃ j:Nat,j + k = rs.length ∧ v5 = .int .i64 (j:Int) ∧ Below w.heap.size w wr ∧ Hid (∀ i,i < j → fitZ rs vs i ≤ mostZ rs i))
 case atStart=>exact ⟨0,by omega,rfl,Below.refl _ _,hide (fun i h=>absurd h (Nat.not_lt_zero _))⟩
 case round=>
  obtain ⟨j,hjk,rfl,hB,HJ⟩:=hrel
  rcases Nat.eq_zero_or_pos gk with h0 | h0
  ·subst h0
   obtain rfl:j = rs.length:=by omega
   have he:fitsB rs vs = true:=fitsB_true HJ.out
   rw [HRES.out] at he
   subst he
   clear HJ HRES
   go_wp2_with fail
   go_ret
   exact ⟨rfl,hB⟩
  ·have hj:j < rs.length:=by omega
   have ej:(j:Int) < (rs.length:Int):=by omega
   obtain ⟨bR,oR,rfl,hrr⟩:=HX.out (by omega)
   obtain ⟨r0,rfit,rcs,m0,m1,mok⟩:=(hrr j hj).below hB (Nat.le_refl _)
   obtain ⟨hrl,hmo,hrok⟩:=right_irow HR.out hj
   have hrsz:=HS.out rs[j] (List.getElem_mem hj)
   obtain ⟨r,hr⟩:∃ r,rs[j] = r:=⟨_,rfl⟩
   have hzt:=times_val hj hr
   have hmz:mostZ rs j = r.most.z:=by
    unfold mostZ
    rw [List.getElem?_eq_getElem hj,hr]
    rfl
   rw [hr] at r0 rfit rcs m0 m1 mok hrl hrok hrsz hmo
   rw [HN.out] at hrl
   rw [hrl] at r0
   have hlz:∀ c,len (timesZ rs j c * nthI vs c) ≤ 100000001:=fun c=>by
    have h1:=len_mul (timesZ rs j c) (nthI vs c)
    have h2:=HLN.out c
    have h3:len (timesZ rs j c) ≤ 1:=by rw [hzt]; exact valZ_len hrok hrsz.2 c
    omega
   have HRL:=hide hrl
   have HZT:=hide hzt
   have HLZ:=hide hlz
   have HROK:=hide hrok
   have HRSZ:=hide hrsz
   have HMZ:=hide hmz
   have HMO:=hide hmo
   have HCS:=hide rcs
   have HMK:=hide mok
   clear hrr rfit rcs mok hrl hzt hlz hrok hrsz hmz hmo hr
   go_wp2_with fail
   refine (RInt_any 0 wr (by decide) (by decide)).mono ?_
   rintro e w2 ⟨rN,rfl,hN0,hb2⟩
   obtain ⟨zn,za,zl,zk,rfl⟩:=hN0.parts
   obtain ⟨W3,hW3⟩:∃ W3,w2.alloc (.cells #[.bool zn,.slice za zl zk] 41) = W3:=⟨_,rfl⟩
   obtain ⟨g6,hg6⟩:∃ g,w2.heap.size = g:=⟨_,rfl⟩
   have b6:Blk W3 g6 41 #[.bool zn,.slice za zl zk]:=by rw [← hW3,← hg6]; exact Blk.new _ _ _
   have s3:Below w2.heap.size w2 W3:=by rw [← hW3]; exact (Below.refl _ _).alloc (Nat.le_refl _) _
   have hg6e:w2.heap.size ≤ g6:=Nat.le_of_eq hg6
   have hBg:Below g6 w2 W3:=by rw [← hg6]; exact s3
   have HX0:Hid (∃ (m:Bool) (a:Option Addr) (l k:Nat),Blk W3 g6 41 #[.bool m,.slice a l k] ∧ NumV W3 (.agg #[.bool m,.slice a l k]) (sumI 0 fun c=>timesZ rs j c * nthI vs c)):=hide ⟨zn,za,zl,zk,b6,hN0.below s3 (Nat.le_refl _)⟩
   have hw2:Below w.heap.size w w2:=hB.trans (hb2.mono hB.size)
   have hwg:w.heap.size ≤ g6:=Nat.le_trans hw2.size hg6e
   replace r0:=cellB r0 hb2 (Nat.le_refl _)
   replace m0:=cellB m0 hb2 (Nat.le_refl _)
   replace m1:=cellB m1 hb2 (Nat.le_refl _)
   have HCS2:Hid (IListAt w2 r.at_ r.xs):=hide (HCS.out.below hb2 (Nat.le_refl _))
   have HMK2:Hid (RawOk w2 r.most):=hide (HMK.out.below hb2 (Nat.le_refl _))
   have HV2:Hid (NListAt w2 b vs):=hide (HV.out.below hw2 (Nat.le_refl _))
   have hg6l:g6 < W3.heap.size:=b6.lt
   have HW3:=hide hW3
   have HG6:=hide hg6
   clear hW3 hg6 s3 b6 hN0 hb2 hB HCS HMK
   go_upto_region 5 with (fail)
   rw [HW3.out,HG6.out]
   clear HW3 HG6
   obtain ⟨K0,hK0⟩:∃ K0,K0 = gk:=⟨_,rfl⟩
   subst hK0
   go_wp2_with fail
   go_loopg [7] n (fun k v7 wr=>∃ q:Nat,q + k = n ∧ v7 = .int .i64 (q:Int) ∧ Below g6 w2 wr ∧ g6 < wr.heap.size ∧ Hid (∃ (m:Bool) (a:Option Addr) (l k:Nat),Blk wr g6 41 #[.bool m,.slice a l k] ∧ NumV wr (.agg #[.bool m,.slice a l k]) (sumI q fun c=>timesZ rs j c * nthI vs c)))
   case atStart=>exact ⟨0,by omega,rfl,hBg,hg6l,HX0⟩
   case round=>
    clear HX0 hBg hg6l
    obtain ⟨q,hqk,rfl,hBi,hg6s,HXB⟩:=hrel
    obtain ⟨xm,xa,xl,xk,bx,hxi⟩:=HXB.out
    have k0:=cellB r0 hBi hg6e
    have k3:=cellB m0 hBi hg6e
    have k4:=cellB m1 hBi hg6e
    obtain ⟨k1,k2,-⟩:=bx.c2
    have hBw:Below w.heap.size w wr:=hw2.trans (hBi.mono hwg)
    rcases Nat.eq_zero_or_pos gk with h1 | h1
    ·subst h1
     obtain rfl:q = n:=by omega
     have hsum:sumI q (fun c=>timesZ rs j c * nthI vs c) = fitZ rs vs j:=by unfold fitZ; rw [HN.out]
     rw [hsum] at hxi
     have hmv:IntV wr (.agg #[.bool r.most.neg,.slice r.most.at_ r.most.ds.length r.most.cap]) (mostZ rs j):=by rw [HMZ.out]; exact (HMK2.out.below hBi hg6e).intV HMO.out
     have hmlen:len (mostZ rs j) ≤ 1:=by rw [HMZ.out,Raw.len HMO.out]; exact HRSZ.out.1
     have dx:Dm (fitZ rs vs j):=dm_len (by rw [← hsum]; exact Nat.le_trans (sum_len HLZ.out q) (by omega))
     have dm:Dm (mostZ rs j):=dm_len (by omega)
     obtain ⟨C,hC⟩:∃ C,ordZ (fitZ rs vs j) (mostZ rs j) = C:=⟨_,rfl⟩
     have HC:=hide hC
     have HXI:=hide hxi
     have HMV:=hide hmv
     have hcmp:∀ {c:World} {u v:Value},NumV c u (fitZ rs vs j) → NumV c v (mostZ rs j) → Calls Try.prog 40 #[u,v] c fun e w'=>e = .returned (.int .i64 C) ∧ Below c.heap.size c w':=fun {c u v} hu hv=>by
      have h:=RCmp_any c hu hv dx dm
      rw [hC] at h
      exact h
     clear hC hxi hmv hsum HXB bx
     go_upto_region 9 with (fail)
     refine wp_region_held_drew (S:=fun w'=>w'.cell? ⟨g6,0,none⟩ = some (.bool xm) ∧ w'.cell? ⟨g6,1,none⟩ = some (.slice xa xl xk) ∧ w'.cell? ⟨bR,oR + j * 3 + 1,none⟩ = some (.bool r.most.neg) ∧ w'.cell? ⟨bR,oR + j * 3 + 2,none⟩ = some (.slice r.most.at_ r.most.ds.length r.most.cap) ∧ Below wr.heap.size wr w') (by kernel_rfl) (⟨k1,k2,k3,k4,(Below.refl _ _).drew⟩) (fun hS=>?_)
     refine tkH 0 ⟨some 37,.load 41 (.tmp 6),41,"ref.go:40",#[],none⟩ hS ?_
     try simp only [Act.put,sB,sC,sD]
     refine tkH 1 ⟨some 38,.move (.tmp 0),32,"ref.go:40",#[],none⟩ hS ?_
     try simp only [Act.put,sB,sC,sD]
     refine tkH 2 ⟨some 39,.move (.tmp 5),3,"ref.go:40",#[],none⟩ hS ?_
     try simp only [Act.put,sB,sC,sD]
     refine tkH 3 ⟨some 40,.indexAddr 32 (.tmp 38) (.tmp 39),0,"ref.go:40",#[eD 1,eD 2],none⟩ hS ?_
     try simp only [Act.put,sB,sC,sD]
     refine tkH 4 ⟨some 41,.fieldAddr 45 (.tmp 40) 1,0,"ref.go:40",#[eD 3],none⟩ hS ?_
     try simp only [Act.put,sB,sC,sD]
     refine tkH 5 ⟨some 42,.load 38 (.tmp 41),38,"ref.go:40",#[eD 4],none⟩ hS ?_
     try simp only [Act.put,sB,sC,sD]
     refine wpAnyH_ready (rs:=[6]) (by kernel_rfl) (by simp) ?_
     refine AllReadyH.cons (o:=⟨some 43,.call { callee:=.value (.func 14),args:=#[.tmp 42],argTypes:=#[38] },41,"ref.go:40",#[eD 5],none⟩) rfl (fun K hK=>?_) AllReadyH.nil
     go_simp
     (go_at_call 14; (with_reducible refine (ROf_any _ (HMV.out.below hS.2.2.2.2 (Nat.le_refl _)) (by omega)).mono ?_); rintro e wO ⟨rO,rfl,hO,hb1⟩)
     obtain ⟨on,oa,ol,ok,rfl⟩:=hO.parts
     have hwO:=hS.2.2.2.2.trans (hb1.mono hS.2.2.2.2.size)
     have hXO:=HXI.out.below hwO (Nat.le_refl _)
     go_wp2_with fail
     refine hK.out _ _ ((kp4 hS hb1)) (fun hS=>?_)
     clear hK K hb1
     try simp only [Act.put,sB,sC,sD]
     refine wpAnyH_ready (rs:=[7]) (by kernel_rfl) (by simp) ?_
     refine AllReadyH.cons (o:=⟨some 44,.call { callee:=.value (.func 40),args:=#[.tmp 37,.tmp 43],argTypes:=#[41,41] },3,"ref.go:40",#[eD 0,eD 6,eC 6],none⟩) rfl (fun K hK=>?_) AllReadyH.nil
     go_simp
     (go_at_call 40; (with_reducible refine (hcmp hXO hO).mono ?_); rintro e wN ⟨rfl,hb1⟩)
     go_wp2_with fail
     refine hK.out _ _ ((kp4 hS hb1)) (fun hS=>?_)
     clear hK K hb1
     try simp only [Act.put,sB,sC,sD]
     refine tkH 8 ⟨some 45,.binOp .gtr 3 (.tmp 44) (.const (.int .i64 0)) 3,4,"ref.go:40",#[eD 7],none⟩ hS ?_
     try simp only [Act.put,sB,sC,sD]
     refine wpAnyH_done (by kernel_rfl) ?_ _
     have hBf:Below w.heap.size w wN:=hBw.trans (hS.2.2.2.2.mono hBw.size)
     clear hS k0 k1 k2 k3 k4 hcmp
     by_cases hgt:mostZ rs j < fitZ rs vs j
     ·have eC:C = 1:=by
       rw [← HC.out]
       unfold ordZ
       rw [if_neg (by omega),if_pos hgt]
      subst eC
      have he:=fitsB_false (vs:=vs) hj hgt
      rw [HRES.out] at he
      subst he
      clear hgt HC HJ HRES dx dm
      go_wp2_with fail
      go_ret
      exact ⟨rfl,hBf⟩
     ·have eC:¬(0:Int) < C:=by
       rw [← HC.out]
       unfold ordZ
       split
       ·omega
       ·first | omega | (rw [if_neg hgt]; omega)
      have eC':decide ((0:Int) < C) = false:=decide_eq_false eC
      have HJ2:Hid (∀ i,i < j + 1 → fitZ rs vs i ≤ mostZ rs i):=hide (fun i hi=>by
       by_cases he:i = j
       ·subst he; omega
       ·exact HJ.out i (by omega))
      clear hgt HC HJ dx dm
      go_wp2_with fail
      go_roundg (K0 - 1)
      case measure=>omega
      case rel=>exact ⟨j + 1,by omega,by go_num,hBf,HJ2⟩
    ·have hq:q < n:=by omega
     have eq:(q:Int) < (n:Int):=by omega
     obtain ⟨bA,oA,heA,hA⟩:=(HCS2.out.below hBi hg6e) (by rw [HRL.out]; omega)
     obtain ⟨bV,oV,rfl,hV⟩:=(HV2.out.below hBi hg6e) (by rw [HN.out]; omega)
     have hqr:q < r.xs.length:=by rw [HRL.out]; exact hq
     have hqv:q < vs.length:=by rw [HN.out]; exact hq
     obtain ⟨en,ea,el,ek,t0,t1,hez⟩:=(hA q hqr).iat (HROK.out _ (List.getElem_mem hqr))
     obtain ⟨vn,va,vl,vk,t2,t3,hvz⟩:=hV q hqv
     rw [← valZ_at hqr,← HZT.out q] at hez
     rw [← nthI_at hqv] at hvz
     rw [heA] at k0
     have se:len (timesZ rs j q) ≤ 1:=by rw [HZT.out q]; exact valZ_len HROK.out HRSZ.out.2 q
     have de:Dm (timesZ rs j q):=dm_len (by omega)
     have dv:Dm (nthI vs q):=dm_len (Nat.le_trans (HLN.out q) (by decide))
     have dp:Dm (timesZ rs j q * nthI vs q):=dm_len (Nat.le_trans (HLZ.out q) (by decide))
     have dx:Dm (sumI q fun c=>timesZ rs j c * nthI vs c):=dm_len (Nat.le_trans (sum_len HLZ.out q) (by omega))
     have HEZ:=hide hez
     have HVZ:=hide hvz
     have HXI:=hide hxi
     clear hez hvz hxi hA hV heA HXB
     go_upto_region 8 with (fail)
     refine wp_region_till (S:=fun w'=>w'.cell? ⟨g6,0,none⟩ = some (.bool xm) ∧ w'.cell? ⟨g6,1,none⟩ = some (.slice xa xl xk) ∧ w'.cell? ⟨bR,oR + j * 3,none⟩ = some (.slice (some ⟨bA,oA,none⟩) n r.cap) ∧ w'.cell? ⟨bA,oA + q * 2,none⟩ = some (.bool en) ∧ w'.cell? ⟨bA,oA + q * 2 + 1,none⟩ = some (.slice ea el ek) ∧ w'.cell? ⟨bV,oV + q * 2,none⟩ = some (.bool vn) ∧ w'.cell? ⟨bV,oV + q * 2 + 1,none⟩ = some (.slice va vl vk) ∧ Below wr.heap.size wr w') (fun i=>decide (i < 16)) (by kernel_rfl) (⟨k1,k2,k0,t0,t1,t2,t3,(Below.refl _ _).drew⟩) (fun hS=>?_)
     refine tkT 0 ⟨some 21,.load 41 (.tmp 6),41,"ref.go:38",#[],none⟩ hS ?_
     try simp only [Act.put,sB,sC,sD]
     refine tkT 1 ⟨some 22,.move (.tmp 0),32,"ref.go:38",#[],none⟩ hS ?_
     try simp only [Act.put,sB,sC,sD]
     refine tkT 2 ⟨some 23,.move (.tmp 5),3,"ref.go:38",#[],none⟩ hS ?_
     try simp only [Act.put,sB,sC,sD]
     refine tkT 3 ⟨some 24,.indexAddr 32 (.tmp 22) (.tmp 23),0,"ref.go:38",#[eD 1,eD 2],none⟩ hS ?_
     try simp only [Act.put,sB,sC,sD]
     refine tkT 4 ⟨some 25,.fieldAddr 45 (.tmp 24) 0,0,"ref.go:38",#[eD 3],none⟩ hS ?_
     try simp only [Act.put,sB,sC,sD]
     refine tkT 5 ⟨some 26,.load 25 (.tmp 25),25,"ref.go:38",#[eD 4],none⟩ hS ?_
     try simp only [Act.put,sB,sC,sD]
     refine tkT 6 ⟨some 27,.move (.tmp 7),3,"ref.go:38",#[],none⟩ hS ?_
     try simp only [Act.put,sB,sC,sD]
     refine tkT 7 ⟨some 28,.indexAddr 25 (.tmp 26) (.tmp 27),0,"ref.go:38",#[eD 5,eD 6],none⟩ hS ?_
     try simp only [Act.put,sB,sC,sD]
     refine tkT 8 ⟨some 29,.load 38 (.tmp 28),38,"ref.go:38",#[eD 7],none⟩ hS ?_
     try simp only [Act.put,sB,sC,sD]
     refine tkT 10 ⟨some 31,.move (.tmp 1),35,"ref.go:38",#[],none⟩ hS ?_
     try simp only [Act.put,sB,sC,sD]
     refine tkT 11 ⟨some 32,.move (.tmp 7),3,"ref.go:38",#[],none⟩ hS ?_
     try simp only [Act.put,sB,sC,sD]
     refine tkT 12 ⟨some 33,.indexAddr 35 (.tmp 31) (.tmp 32),0,"ref.go:38",#[eD 10,eD 11],none⟩ hS ?_
     try simp only [Act.put,sB,sC,sD]
     refine tkT 13 ⟨some 34,.load 41 (.tmp 33),41,"ref.go:38",#[eD 12],none⟩ hS ?_
     try simp only [Act.put,sB,sC,sD]
     refine Till_ready (rs:=[9]) (by kernel_rfl) (by kernel_rfl) (by simp) ?_
     refine AllReadyT.cons (o:=⟨some 30,.call { callee:=.value (.func 14),args:=#[.tmp 29],argTypes:=#[38] },41,"ref.go:38",#[eD 8],none⟩) rfl (fun K hK=>?_) AllReadyT.nil
     go_simp
     (go_at_call 14; (with_reducible refine (ROf_any _ (HEZ.out.below hS.2.2.2.2.2.2.2 (Nat.le_refl _)) (by omega)).mono ?_); rintro e wO ⟨rO,rfl,hO,hb1⟩)
     obtain ⟨on,oa,ol,ok,rfl⟩:=hO.parts
     have hwO:=hS.2.2.2.2.2.2.2.trans (hb1.mono hS.2.2.2.2.2.2.2.size)
     have hVO:=HVZ.out.below hwO (Nat.le_refl _)
     have hXO:=HXI.out.below hwO (Nat.le_refl _)
     go_wp2_with fail
     refine hK.out _ _ ((kp7 hS hb1)) (fun hS=>?_)
     clear hK K hb1
     try simp only [Act.put,sB,sC,sD]
     refine Till_ready (rs:=[14]) (by kernel_rfl) (by kernel_rfl) (by simp) ?_
     refine AllReadyT.cons (o:=⟨some 35,.call { callee:=.value (.func 39),args:=#[.tmp 30,.tmp 34],argTypes:=#[41,41] },41,"ref.go:38",#[eD 9,eD 13,eC 9],none⟩) rfl (fun K hK=>?_) AllReadyT.nil
     go_simp
     (go_at_call 39; (with_reducible refine (RMul_any _ hO hVO de dv).mono ?_); rintro e wM ⟨rM,rfl,hM,hb1⟩)
     obtain ⟨mn,ma,ml,mk,rfl⟩:=hM.parts
     have hXM:=hXO.below hb1 (Nat.le_refl _)
     go_wp2_with fail
     refine hK.out _ _ ((kp7 hS hb1)) (fun hS=>?_)
     clear hK K hb1
     try simp only [Act.put,sB,sC,sD]
     refine Till_ready (rs:=[15]) (by kernel_rfl) (by kernel_rfl) (by simp) ?_
     refine AllReadyT.cons (o:=⟨some 36,.call { callee:=.value (.func 38),args:=#[.tmp 21,.tmp 35],argTypes:=#[41,41] },41,"ref.go:38",#[eD 0,eD 14,eC 14],none⟩) rfl (fun K hK=>?_) AllReadyT.nil
     go_simp
     (go_at_call 38; (with_reducible refine (RAdd_any _ hXM hM dx dp).mono ?_); rintro e wN ⟨rN,rfl,hN,hb1⟩)
     obtain ⟨sn,sa,sl,sk,rfl⟩:=hN.parts
     go_wp2_with fail
     refine hK.out _ _ ((kp7 hS hb1)) (fun hS=>?_)
     clear hK K hb1
     try simp only [Act.put,sB,sC,sD]
     refine Till_turn (by kernel_rfl) ?_
     refine wpAnyH_ready (rs:=[16]) (by kernel_rfl) (by simp) ?_
     refine AllReadyH.cons (o:=⟨none,.store 41 (.tmp 6) (.tmp 36),0,"ref.go:38",#[eD 15,eC 15,eP 0,eP 1,eP 2,eP 3,eP 4,eP 5,eP 6,eP 7,eP 8,eP 9,eP 10,eP 11,eP 12,eP 13,eP 14,eP 15],none⟩) rfl (fun K hK=>?_) AllReadyH.nil
     have hBN:Below wr.heap.size wr wN:=hS.2.2.2.2.2.2.2
     have bxN:=bx.below hBN bx.lt
     obtain ⟨z0,z1,-⟩:=bxN.c2
     have f0:=bxN.frozen 0
     have f1:=bxN.frozen 1
     obtain ⟨W5,hW5⟩:∃ W5,(wN.setCell ⟨g6,0,none⟩ (.bool sn)).setCell ⟨g6,1,none⟩ (.slice sa sl sk) = W5:=⟨_,rfl⟩
     have HX5:Hid (∃ (m:Bool) (a:Option Addr) (l k:Nat),Blk W5 g6 41 #[.bool m,.slice a l k] ∧ NumV W5 (.agg #[.bool m,.slice a l k]) (sumI (q + 1) fun c=>timesZ rs j c * nthI vs c)):=hide ⟨sn,sa,sl,sk,by rw [← hW5]; exact (bxN.set_ 0 _).set_ 1 _,by rw [← hW5]; exact hN.store bxN _ _⟩
     have hB5:Below g6 w2 W5:=by rw [← hW5]; exact ((hBi.trans (hBN.mono (Nat.le_of_lt hg6s))).setCell (Nat.le_refl _) _).setCell (Nat.le_refl _) _
     have hg5:g6 < W5.heap.size:=by rw [← hW5]; simp [World.setCell]; exact Nat.lt_of_lt_of_le hg6s hBN.size
     have HW5:=hide hW5
     clear hW5 bxN hBN
     go_simp
     refine hK.out _ _ trivial (fun _=>?_)
     clear hK K z0 z1 f0 f1
     try simp only [Act.put,sB,sC,sD]
     refine wpAnyH_done (by kernel_rfl) ?_ _
     rw [HW5.out]
     clear HW5 hS k0 k1 k2 k3 k4 t0 t1 t2 t3
     go_wp2_with fail
     go_roundg (gk - 1)
     case measure=>omega
     case rel=>exact ⟨q + 1,by omega,by go_num,hB5,hg5,HX5⟩
end Go.Proofs.Ytphjffbldhhdiaa
