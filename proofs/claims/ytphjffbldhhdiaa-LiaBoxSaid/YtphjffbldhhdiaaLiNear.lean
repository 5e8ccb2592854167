/- collatorref18.Near: by its contract. -/
import Derived.Test.YtphjffbldhhdiaaLiFits
import Derived.Test.YtphjffbldhhdiaaLiGrowA
namespace Go.Proofs.Ytphjffbldhhdiaa
open Go.RowKit

def nearB (rs:List LRow) (N:Nat):Nat → List Int → Bool
 | 0,vs=>fitsB rs vs
 | d + 1,vs=>(List.range (2 * N + 1)).any fun i=>nearB rs N d (vs ++ [(i:Int) - N])
theorem near_iff {rs:List LRow} {N:Nat}:∀ {d:Nat} {vs:List Int},nearB rs N d vs = true ↔ ∃ ws:List Int,ws.length = d ∧ (∀ v ∈ ws,-(N:Int) ≤ v ∧ v ≤ N) ∧ fitsB rs (vs ++ ws) = true
 | 0,vs=>by
  show fitsB rs vs = true ↔ _
  constructor
  ·intro h
   exact ⟨[],rfl,(fun v hv=>by cases hv),by rw [List.append_nil]; exact h⟩
  ·rintro ⟨ws,hl,_,h⟩
   obtain rfl:=List.length_eq_zero_iff.1 hl
   rwa [List.append_nil] at h
 | d + 1,vs=>by
  show (List.range (2 * N + 1)).any (fun i=>nearB rs N d (vs ++ [(i:Int) - N])) = true ↔ _
  rw [List.any_eq_true]
  constructor
  ·rintro ⟨i,hi,h⟩
   obtain ⟨ws,hl,hb,hf⟩:=near_iff.1 h
   rw [List.mem_range] at hi
   refine ⟨((i:Int) - N) :: ws,by simp [hl],fun v hv=>?_,by rw [List.append_assoc] at hf; exact hf⟩
   rcases List.mem_cons.1 hv with rfl | hv
   ·omega
   ·exact hb v hv
  ·rintro ⟨ws,hl,hb,hf⟩
   match ws,hl with
   | x :: ws,hl=>
    have h1:=hb x (List.mem_cons_self ..)
    refine ⟨(x + N).toNat,List.mem_range.2 (by omega),near_iff.2 ⟨ws,by simpa using hl,fun v hv=>hb v (List.mem_cons_of_mem _ hv),?_⟩⟩
    rw [List.append_assoc,show (((x + N).toNat:Nat):Int) - N = x from by omega]
    exact hf
theorem infoNum:(Try.prog.info? 41).map (fun i=>(i.zero,i.size,i.bytes)) = some (some zeroI,2,32):=by kernel_rfl
theorem zeroI_calmA:∀ u ∈ zeroI.cells,NoA u:=fun u hu=>by
 simp only [zeroI,Value.cells,List.mem_toArray,List.mem_cons,List.not_mem_nil,or_false] at hu
 rcases hu with rfl | rfl
 ·exact NoA.bool _
 ·exact NoA.slice _ _ _
theorem two_calmA (n:Bool) (a:Option Addr) (l k:Nat):∀ u ∈ [Value.bool n,.slice a l k],NoA u:=fun u hu=>by
 simp only [List.mem_cons,List.not_mem_nil,or_false] at hu
 rcases hu with rfl | rfl
 ·exact NoA.bool _
 ·exact NoA.slice _ _ _
theorem NumV.grown {w w':World} {v:Value} {z:Int} {row:Option Nat} (h:NumV w v z) (hg:w.grownBy w' row) (hc:∀ g,row = some g → CalmA w g):NumV w' v z:=by
 obtain ⟨a,cap,e,hf,hd⟩:=h
 refine ⟨a,cap,e,hf,fun hn=>?_⟩
 obtain ⟨b,off,e,hcc⟩:=hd hn
 exact ⟨b,off,e,fun j hj=>hg.cell (hcc j hj) (fun e=>hc b e.symm _ _ _ (hcc j hj))⟩
def NRow (w:World) (B:Nat) (v:Value) (vs:List Int):Prop:=∃ xs,w.ownsRow B 41 2 v vs.length xs ∧ (∀ g,v.ownBlock = some g → CalmA w g) ∧ ∀ i (h:i < vs.length),∃ (n:Bool) (a:Option Addr) (l k:Nat),xs[i * 2]? = some (.bool n) ∧ xs[i * 2 + 1]? = some (.slice a l k) ∧ NumV w (.agg #[.bool n,.slice a l k]) vs[i]
theorem NRow.below {w w':World} {B:Nat} {v:Value} {vs:List Int} (h:NRow w B v vs) (hb:Below w.heap.size w w'):NRow w' B v vs:=by
 obtain ⟨xs,h1,h2,h3⟩:=h
 refine ⟨xs,own_stays h1 (fun g hg=>hb.block g (h1.lt g hg).2),fun g hg=>(h2 g hg).below hb (h1.lt g hg).2,fun i hi=>?_⟩
 obtain ⟨n,a,l,k,e0,e1,e2⟩:=h3 i hi
 exact ⟨n,a,l,k,e0,e1,e2.below hb (Nat.le_refl _)⟩
theorem NRow.list {w:World} {B:Nat} {v:Value} {vs:List Int} (h:NRow w B v vs):∃ a c,v = .slice a vs.length c ∧ Fit a vs.length c ∧ NListAt w a vs:=by
 obtain ⟨xs,h1,_,h3⟩:=h
 rcases h1.2 with ⟨rfl,h0⟩ | ⟨g,cap,cur,rfl,_,hg,hle,_⟩
 ·exact ⟨none,0,by rw [h0],⟨by omega,fun _=>rfl⟩,fun h=>by omega⟩
 ·refine ⟨some ⟨g,0,none⟩,cap,rfl,⟨hle,fun e=>by cases e⟩,fun _=>⟨g,0,rfl,fun i hi=>?_⟩⟩
  obtain ⟨n,a,l,k,e0,e1,e2⟩:=h3 i hi
  have hc:=h1.cells (g:=g) rfl
  have c0:=hc _ _ e0
  have c1:=hc _ _ e1
  rw [add_plain] at c0 c1
  exact ⟨n,a,l,k,c0,by rw [Nat.add_assoc]; exact c1,e2⟩
theorem NListAt.cells {w:World} {ad:Addr} {vs:List Int} (h:NListAt w (some ad) vs):∃ news:List Value,news.length = vs.length * 2 ∧ (∀ j u,news[j]? = some u → w.cell? (ad.add j) = some u) ∧ (∀ u ∈ news,u.oneCell' = true) ∧ (∀ u ∈ news,NoA u) ∧ ∀ i (h:i < vs.length),∃ (n:Bool) (a:Option Addr) (l k:Nat),news[i * 2]? = some (.bool n) ∧ news[i * 2 + 1]? = some (.slice a l k) ∧ NumV w (.agg #[.bool n,.slice a l k]) vs[i]:=by
 rcases Nat.eq_zero_or_pos vs.length with h0 | h0
 ·exact ⟨[],by rw [h0]; rfl,(fun j u e=>by cases e),(fun u hu=>by cases hu),(fun u hu=>by cases hu),fun i hi=>by omega⟩
 ·obtain ⟨b,o,e,hN⟩:=h h0
  obtain rfl:=Option.some.inj e
  have hx:∀ i,i < vs.length * 2 → ∃ u,w.cell? ⟨b,o + i,none⟩ = some u ∧ u.oneCell' = true ∧ NoA u:=fun i hi=>by
   obtain ⟨n,a,l,k,c0,c1,_⟩:=hN (i / 2) (by omega)
   rcases (show i % 2 = 0 ∨ i % 2 = 1 by omega) with h1 | h1
   ·rw [show o + i / 2 * 2 = o + i from by omega] at c0
    exact ⟨_,c0,rfl,NoA.bool _⟩
   ·rw [show o + i / 2 * 2 + 1 = o + i from by omega] at c1
    exact ⟨_,c1,rfl,NoA.slice _ _ _⟩
  obtain ⟨l,hl,hl2⟩:=exists_list (vs.length * 2) hx
  have hat:∀ i (hi:i < l.length),l[i]? = w.cell? ⟨b,o + i,none⟩:=fun i hi=>by rw [List.getElem?_eq_getElem hi,(hl2 i hi).1]
  refine ⟨l,hl,fun j u hj=>?_,fun u hu=>?_,fun u hu=>?_,fun i hi=>?_⟩
  ·have hlt:j < l.length:=(List.getElem?_eq_some_iff.1 hj).1
   rw [add_plain,← hat j hlt]
   exact hj
  ·obtain ⟨j,hj,rfl⟩:=List.mem_iff_getElem.1 hu
   exact (hl2 j hj).2.1
  ·obtain ⟨j,hj,rfl⟩:=List.mem_iff_getElem.1 hu
   exact (hl2 j hj).2.2
  ·obtain ⟨n,a,l',k,c0,c1,hv⟩:=hN i hi
   refine ⟨n,a,l',k,by rw [hat _ (by omega)]; exact c0,?_,hv⟩
   rw [hat _ (by omega),← Nat.add_assoc]
   exact c1
section
variable {w:World} {ops:Array Oper} {rest:List Oper} {o:Oper} {a:Act} {Q:Exit → Act → World → Prop}
theorem wpList_append_nrow (hgd:o.guard = none) (s x:Operand) (ho:o.op = .call { callee:=.builtin .append,args:=#[s,x],argTypes:=#[35,35] }) {B g cb:Nat} {b:Option Addr} {vs:List Int}
  (hs:a.eval s = .slice (some ⟨g,0,none⟩) 0 0) (h0:w.ownsRow B 41 2 (.slice (some ⟨g,0,none⟩) 0 0) 0 []) (hc0:CalmA w g) (hx:a.eval x = .slice b vs.length cb) (hf:Fit b vs.length cb) (hv:NListAt w b vs) (hl:vs.length ≤ 10) (hB:B ≤ w.heap.size) (hgB:B ≤ g)
  (h:∀ v' w',NRow w' B v' vs → Below B w w' → wpList Try.prog ops Q rest (a.put o.dst v') w'):wpList Try.prog ops Q (o :: rest) a w:=by
 obtain ⟨i0,hi0,hz0,hz1,hz2⟩:=info_parts infoNum
 cases b with
 | none=>
  have hc:cb = 0:=hf.2 rfl
  have hl0:vs.length = 0:=by have:=hf.1; omega
  obtain rfl:=List.length_eq_zero_iff.1 hl0
  subst hc
  refine wpList_append_own_none hgd s x 35 ho B 41 i0 2 Try.underlying35 hi0 _ 0 [] hs h0 hx (h _ w ⟨[],h0,fun g' e=>?_,fun i hi=>?_⟩ (Below.refl _ _))
  ·obtain rfl:=Option.some.inj e; exact hc0
  ·exact absurd hi (Nat.not_lt_zero _)
 | some ad=>
  obtain ⟨news,hnl,hns,hn1,hnu,hnv⟩:=hv.cells
  refine wpList_append_calmA w hgd s x 35 ho B 41 i0 zeroI 2 32 Try.underlying35 hi0 hz0 hz1 hz2 rfl (by decide) _ 0 [] hs h0 ad vs.length cb news hx hnl hns hn1 (by unfold maxLen; omega) (by omega) hB (fun g' e=>by obtain rfl:=Option.some.inj e; exact hc0) hnu zeroI_calmA (fun v' w' hown hgrow hat hcalm=>?_)
  have hown':w'.ownsRow B 41 2 v' vs.length news:=by simpa using hown
  refine h v' w' ⟨news,hown',hcalm,fun i hi=>?_⟩ ((Below.refl _ _).grown hgrow hB (fun k hk=>by obtain rfl:=Option.some.inj hk; exact hgB))
  obtain ⟨n,a',l,k,e0,e1,e2⟩:=hnv i hi
  exact ⟨n,a',l,k,e0,e1,e2.grown hgrow (fun g' e=>by obtain rfl:=Option.some.inj e; exact hc0)⟩
theorem wpList_append_num (hgd:o.guard = none) (s x:Operand) (ho:o.op = .call { callee:=.builtin .append,args:=#[s,x],argTypes:=#[35,35] }) {B:Nat} {v:Value} {vs:List Int} {ad:Addr} {n:Bool} {b:Option Addr} {l k:Nat} {z:Int}
  (hs:a.eval s = v) (hv:NRow w B v vs) (hx:a.eval x = .slice (some ad) 1 1) (hc:∀ j u,[Value.bool n,.slice b l k][j]? = some u → w.cell? (ad.add j) = some u) (hz:NumV w (.agg #[.bool n,.slice b l k]) z) (hl:vs.length ≤ 10) (hB:B ≤ w.heap.size)
  (h:∀ v' w',NRow w' B v' (vs ++ [z]) → Below B w w' → wpList Try.prog ops Q rest (a.put o.dst v') w'):wpList Try.prog ops Q (o :: rest) a w:=by
 obtain ⟨i0,hi0,hz0,hz1,hz2⟩:=info_parts infoNum
 obtain ⟨xs,h1,h2,h3⟩:=hv
 refine wpList_append_calmA w hgd s x 35 ho B 41 i0 zeroI 2 32 Try.underlying35 hi0 hz0 hz1 hz2 rfl (by decide) v vs.length xs hs h1 ad 1 1 [.bool n,.slice b l k] hx rfl hc (by simp [Value.oneCell']) (by unfold maxLen; omega) (by omega) hB h2 (two_calmA _ _ _ _) zeroI_calmA (fun v' w' hown hgrow hat hcalm=>?_)
 have hxl:xs.length = vs.length * 2:=h1.1
 refine h v' w' ⟨xs ++ [.bool n,.slice b l k],by rw [List.length_append]; exact hown,hcalm,fun i hi=>?_⟩ ((Below.refl _ _).grown hgrow hB (fun k hk=>(h1.lt k hk).1))
 rw [List.length_append] at hi
 rcases Nat.lt_or_ge i vs.length with hlt | hge
 ·obtain ⟨n',a',l',k',e0,e1,e2⟩:=h3 i hlt
  rw [List.getElem_append_left hlt,List.getElem?_append_left (by omega),List.getElem?_append_left (by omega)]
  exact ⟨n',a',l',k',e0,e1,e2.grown hgrow h2⟩
 ·have hi':i = vs.length:=by simp at hi; omega
  subst hi'
  rw [List.getElem?_append_right (by omega),List.getElem?_append_right (by omega)]
  have ez:(vs ++ [z])[vs.length]'(by simp) = z:=by simp
  rw [ez]
  refine ⟨n,b,l,k,by rw [hxl,Nat.sub_self]; rfl,by rw [hxl,Nat.add_sub_cancel_left]; rfl,hz.grown hgrow h2⟩
end
theorem news_two (w:World) (x y:Value) (t:TypeId):∀ j a,[x,y][j]? = some a → (w.alloc (.cells #[x,y] t)).cell? ((⟨w.heap.size,0,none⟩:Addr).add j) = some a:=World.news_of_block (heap_alloc_new w _)
set_option maxRecDepth 100000 in
set_option maxHeartbeats 12800000 in
theorem try_any {a1:Option Addr} {c1:Nat} {rs:List LRow} {n N:Nat} (hn:n ≤ 4) (hN:N ≤ 3) (hr:rightI (n:Int) rs = true) (hs:∀ r ∈ rs,r.sz 1) (hm:rs.length ≤ 40):∀ (d:Nat) (vs:List Int) (b:Option Addr) (cb:Nat) (w:World),vs.length + d = n → IRowsAt w a1 rs → NListAt w b vs → Fit b vs.length cb → (∀ v ∈ vs,len v ≤ 1) →
  Calls Try.prog 41 #[.int .i64 (n:Int),.slice a1 rs.length c1,.int .i64 (N:Int),.slice b vs.length cb] w fun e w'=>e = .returned (.bool (nearB rs N d vs)) ∧ Below w.heap.size w w':=by
 intro d
 induction d with
 | zero=>
  intro vs b cb w hd hx hv hf hvl
  have e1:((vs.length:Int) == (n:Int)) = true:=by simp; omega
  have hfit:Calls Try.prog 15 #[.slice a1 rs.length c1,.slice b vs.length cb] w fun e w'=>e = .returned (.bool (fitsB rs vs)) ∧ Below w.heap.size w w':=ifits_any w hx hv (by rw [show ((vs.length:Nat):Int) = (n:Int) from by omega]; exact hr) hs (by omega) (fun v hv=>Nat.le_trans (hvl v hv) (by decide)) hm rfl
  have HFIT:=hide hfit
  clear hx hv hf hvl hs hr hfit
  go_enter Try.func41,Try.ntmps41
  go_wp2_with fail
  refine HFIT.out.mono ?_
  rintro e w1 ⟨rfl,hb1⟩
  clear HFIT
  go_wp2_with fail
  go_ret
  exact ⟨rfl,hb1⟩
 | succ d ih=>
  intro vs b cb w hd hx hv hf hvl
  have e1:((vs.length:Int) == (n:Int)) = false:=by simp; omega
  have eneg:IntKind.i64.wrap (-(N:Int)) = -(N:Int):=IntWalk.i64_in _ ⟨by omega,by omega⟩
  have hl4:vs.length ≤ 4:=by omega
  have HIH:Hid (∀ (vs':List Int) (b':Option Addr) (cb':Nat) (w':World),vs'.length + d = n → IRowsAt w' a1 rs → NListAt w' b' vs' → Fit b' vs'.length cb' → (∀ v ∈ vs',len v ≤ 1) → Calls Try.prog 41 #[.int .i64 (n:Int),.slice a1 rs.length c1,.int .i64 (N:Int),.slice b' vs'.length cb'] w' fun e w''=>e = .returned (.bool (nearB rs N d vs')) ∧ Below w'.heap.size w' w''):=hide ih
  have HX:=hide hx
  have HV:=hide hv
  have HF:=hide hf
  have HVL:=hide hvl
  have hres:nearB rs N (d + 1) vs = (List.range (2 * N + 1)).any fun i=>nearB rs N d (vs ++ [(i:Int) - N]):=rfl
  obtain ⟨res,hr2⟩:∃ res,nearB rs N (d + 1) vs = res:=⟨_,rfl⟩
  rw [hr2] at hres ⊢
  have HRES:=hide hres
  clear hx hv hf hvl hs hr ih hres hr2
  go_enter Try.func41,Try.ntmps41
  go_wp2_with fail
  go_loopg [9] (2 * N + 1) (fun k v9 wr=>∃ i:Nat,i + k = 2 * N + 1 ∧ v9 = .int .i64 ((i:Int) - (N:Int)) ∧ Below w.heap.size w wr ∧ Hid (∀ q,q < i → nearB rs N d (vs ++ [(q:Int) - N]) = false))
  case atStart=>exact ⟨0,by omega,by congr 1; omega,Below.refl _ _,hide (fun q h=>absurd h (Nat.not_lt_zero _))⟩
  case round=>
   obtain ⟨i,hik,rfl,hB,HJ⟩:=hrel
   rcases Nat.eq_zero_or_pos gk with h0 | h0
   ·subst h0
    have e2:¬((i:Int) - (N:Int) ≤ (N:Int)):=by omega
    have e2':decide ((i:Int) - (N:Int) ≤ (N:Int)) = false:=decide_eq_false e2
    have he:res = false:=by
     rw [HRES.out]
     exact List.any_eq_false.2 fun q hq=>by
      have hq':=List.mem_range.1 hq
      rw [HJ.out q (by omega)]
      decide
    subst he
    clear HJ HRES HIH hik
    go_wp2_with fail
    go_ret
    exact ⟨rfl,hB⟩
   ·have e2:(i:Int) - (N:Int) ≤ (N:Int):=by omega
    have e2':decide ((i:Int) - (N:Int) ≤ (N:Int)) = true:=decide_eq_true e2
    obtain ⟨W2,hW2⟩:∃ W,wr.alloc (.cells #[] 41) = W:=⟨_,rfl⟩
    obtain ⟨B,hBB⟩:∃ g,wr.heap.size = g:=⟨_,rfl⟩
    have s2:Below B wr W2:=by rw [← hW2,← hBB]; exact (Below.refl _ _).alloc (Nat.le_refl _) _
    have ho2:W2.ownsRow B 41 2 (.slice (some ⟨B,0,none⟩) 0 0) 0 []:=by rw [← hW2,← hBB]; exact World.ownsRow_made wr #[] 0 (Nat.le_refl _) (by unfold maxLen; omega) rfl
    have hc2:CalmA W2 B:=by rw [← hW2,← hBB]; exact CalmA.of (Blk.new wr _ _) (fun u hu=>by simp at hu)
    have hB2:Below w.heap.size w W2:=hB.trans (s2.mono (by rw [← hBB]; exact hB.size))
    have hBl:B ≤ W2.heap.size:=by rw [← hBB] at s2 ⊢; exact s2.size
    have hv2:=HV.out.below hB2 (Nat.le_refl _)
    have hwB:w.heap.size ≤ B:=by rw [← hBB]; exact hB.size
    have HO2:=hide ho2
    have HC2:=hide hc2
    have HV2:=hide hv2
    have HW2:=hide hW2
    have HBB:=hide hBB
    clear hW2 hBB ho2 hc2 hv2 s2 hB
    go_upto_region 6 with (fail)
    go_wp2_with (at_builtin; rw [HW2.out,HBB.out]; refine wpList_append_nrow (B:=B) (g:=B) (b:=b) (cb:=cb) (vs:=vs) rfl (.tmp 27) (.tmp 28) rfl rfl HO2.out HC2.out rfl HF.out HV2.out (by omega) hBl (Nat.le_refl _) ?_)
    intro v3 w3 hN3 hb3
    have hB3:Below w.heap.size w w3:=hB2.trans (hb3.mono hwB)
    have hB3s:B ≤ w3.heap.size:=Nat.le_trans hBl hb3.size
    have HN3:=hide hN3
    obtain ⟨a3,c3,rfl,-⟩:=hN3.list
    clear hN3 HW2 HBB HO2 HC2 HV2 hb3
    go_wp2_with fail
    refine (RInt_any ((i:Int) - (N:Int)) w3 (by omega) (by omega)).mono ?_
    rintro e w4 ⟨rI,rfl,hI,hb4⟩
    obtain ⟨zn,za,zl,zk,rfl⟩:=hI.parts
    obtain ⟨W5,hW5⟩:∃ W,w4.alloc (.cells #[.bool zn,.slice za zl zk] 41) = W:=⟨_,rfl⟩
    have s5:Below w4.heap.size w4 W5:=by rw [← hW5]; exact (Below.refl _ _).alloc (Nat.le_refl _) _
    have hNS:∀ j u,[Value.bool zn,.slice za zl zk][j]? = some u → W5.cell? ((⟨w4.heap.size,0,none⟩:Addr).add j) = some u:=by rw [← hW5]; exact news_two _ _ _ _
    have HN5:Hid (NRow W5 B (.slice a3 vs.length c3) vs):=hide ((HN3.out.below hb4).below s5)
    have HI5:Hid (NumV W5 (.agg #[.bool zn,.slice za zl zk]) ((i:Int) - (N:Int))):=hide (hI.below s5 (Nat.le_refl _))
    have hB5:Below w.heap.size w W5:=(hB3.trans (hb4.mono hB3.size)).trans (s5.mono (Nat.le_trans hB3.size hb4.size))
    have hB5s:B ≤ W5.heap.size:=Nat.le_trans hB3s (Nat.le_trans hb4.size s5.size)
    have HNS:=hide hNS
    have HW5:=hide hW5
    clear hI hW5 hNS s5 hb4 hB3 HN3
    go_wp2_with (at_builtin; rw [HW5.out]; refine wpList_append_num (B:=B) (v:=.slice a3 vs.length c3) (vs:=vs) (ad:=⟨w4.heap.size,0,none⟩) (n:=zn) (b:=za) (l:=zl) (k:=zk) (z:=(i:Int) - (N:Int)) rfl (.tmp 29) (.tmp 32) rfl rfl HN5.out rfl HNS.out HI5.out (by omega) hB5s ?_)
    intro v6 w6 hN6 hb6
    have hB6:Below w.heap.size w w6:=hB5.trans (hb6.mono hwB)
    obtain ⟨a6,c6,rfl,hf6,hl6⟩:=hN6.list
    have hvl6:∀ v ∈ vs ++ [(i:Int) - (N:Int)],len v ≤ 1:=fun v hv=>by
     rcases List.mem_append.1 hv with h | h
     ·exact HVL.out v h
     ·obtain rfl:=List.mem_singleton.1 h
      have h3:(3:Nat) < BB:=by decide
      have h4:((i:Int) - (N:Int)).natAbs ≤ 3:=by omega
      exact dg_len BB2 (by simpa using Nat.lt_of_le_of_lt h4 h3)
    have hcall:=HIH.out (vs ++ [(i:Int) - (N:Int)]) a6 c6 w6 (by simp; omega) (HX.out.below hB6 (Nat.le_refl _)) hl6 hf6 hvl6
    have hlen6:(vs ++ [(i:Int) - (N:Int)]).length = vs.length + 1:=by simp
    rw [hlen6] at hcall ⊢
    have HCALL:=hide hcall
    clear hcall hlen6 hN6 hf6 hl6 hvl6 HW5 HN5 HI5 HNS hb6 hB5
    go_wp2_with fail
    refine HCALL.out.mono ?_
    rintro e w7 ⟨rfl,hb7⟩
    have hB7:Below w.heap.size w w7:=hB6.trans (hb7.mono hB6.size)
    clear HCALL
    cases hb:nearB rs N d (vs ++ [(i:Int) - (N:Int)]) with
    | true=>
     have he:res = true:=by
      rw [HRES.out]
      exact List.any_eq_true.2 ⟨i,List.mem_range.2 (by omega),hb⟩
     subst he
     clear hb HJ HRES HIH
     go_wp2_with fail
     go_ret
     exact ⟨rfl,hB7⟩
    | false=>
     have HJ2:Hid (∀ q,q < i + 1 → nearB rs N d (vs ++ [(q:Int) - N]) = false):=hide (fun q hq=>by
      by_cases he:q = i
      ·subst he; exact hb
      ·exact HJ.out q (by omega))
     clear hb HJ
     go_wp2_with fail
     go_roundg (gk - 1)
     case measure=>omega
     case rel=>exact ⟨i + 1,by omega,by congr 1; omega,hB7,HJ2⟩
set_option maxRecDepth 100000 in
theorem near_any {a1:Option Addr} {c1:Nat} {rs:List LRow} {n N:Nat} (w:World) (hx:IRowsAt w a1 rs) (hn:n ≤ 4) (hN:N ≤ 3) (hr:rightI (n:Int) rs = true) (hs:∀ r ∈ rs,r.sz 1) (hm:rs.length ≤ 40) :
  Calls Try.prog 16 #[.int .i64 (n:Int),.slice a1 rs.length c1,.int .i64 (N:Int)] w fun e w'=>e = .returned (.bool (nearB rs N n [])) ∧ Below w.heap.size w w':=by
 have h:=try_any (c1:=c1) hn hN hr hs hm n [] none 0 w (by simp) hx (fun h=>by simp at h) ⟨Nat.le_refl _,fun _=>rfl⟩ (fun v hv=>by cases hv)
 have H:=hide h
 clear h hx hs hr
 go_enter Try.func16,Try.ntmps16
 go_wp2_with fail
 refine H.out.mono ?_
 rintro e w1 ⟨rfl,hb1⟩
 clear H
 go_wp2_with fail
 go_ret
 exact ⟨rfl,hb1⟩
end Go.Proofs.Ytphjffbldhhdiaa
