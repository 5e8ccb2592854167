/- lia's begin: by its contract. -/
import Derived.Test.YtphjffbldhhdiaaLiAll
namespace Go.Proofs.Ytphjffbldhhdiaa
open Go.RowKit

def zeroBd:Value:=.agg #[.bool false,.bool false,.slice none 0 0]
theorem infoBd:(Try.prog.info? 82).map (fun i=>(i.zero,i.size,i.bytes)) = some (some zeroBd,3,40):=by kernel_rfl
theorem infoBN:(Try.prog.info? 3).map (fun i=>(i.zero,i.size,i.bytes)) = some (some (.int .i64 0),1,8):=by kernel_rfl
theorem zeroBd_calm:∀ u ∈ zeroBd.cells,NoU u:=fun u hu=>by
 have h:u ∈ [Value.bool false,.bool false,.slice none 0 0]:=by simpa [zeroBd,Value.cells] using hu
 exact bound_calm false false none 0 0 u h
theorem zeroN_calm:∀ u ∈ (Value.int .i64 0).cells,NoU u:=fun u hu=>by
 have h:u = .int .i64 0:=by simpa [Value.cells] using hu
 rw [h]
 exact NoU.i64 _
section
variable {w w':World} {g gp o n N:Nat} {q:Rat} {t:TypeId} {cs:Array Value} {v:Value} {S:Sys}
theorem MadeB.bound (h:MadeB w g 82 zeroBd n) {c:Nat} (hc:c < n):BAt w g (c * 3) none:=
 ⟨false,0,h.2 c 0 hc (by decide),⟨false,none,0,0,h.2 c 1 hc (by decide),h.2 c 2 hc (by decide),IntV.zero w⟩,rfl⟩
theorem FAt.ne_blk (h:FAt w g o q) (hb:Blk w gp t cs) (hc:∀ u ∈ cs,∀ b,u ≠ .bool b):g ≠ gp:=fun e=>by
 subst e
 obtain ⟨_,_,_,_,_,_,_,_,h0,_⟩:=h
 rw [hb.cell] at h0
 exact hc _ (Array.mem_of_getElem? h0) _ rfl
theorem FAt.ne_bound {f:Nat → Option Int} (h:FAt w g o q) (hb:CB w gp t (n * 3)) (hf:∀ v,v < n → BAt w gp (v * 3) (f v)):g ≠ gp:=fun e=>by
 subst e
 obtain ⟨_,_,_,_,_,_,_,_,_,h1,_,h3,_⟩:=h
 have key:∀ x a l k,w.cell? ⟨g,x,none⟩ = some (.slice a l k) → x % 3 = 2:=fun x a l k hx=>by
  have hlt:x < n * 3:=by
   obtain ⟨cs,h4,h5,_⟩:=hb
   rw [h4.cell] at hx
   have:=(Array.getElem?_eq_some_iff.1 hx).1
   omega
  obtain ⟨_,_,b0,⟨_,_,_,_,b1,b2,_⟩,_⟩:=hf (x / 3) (by omega)
  have e1:x = x / 3 * 3 + x % 3:=by omega
  match hr:x % 3,Nat.mod_lt x (show 0 < 3 by decide) with
  | 0,_=>rw [hr] at e1; rw [e1,Nat.add_zero,b0] at hx; cases hx
  | 1,_=>rw [hr] at e1; rw [e1,b1] at hx; cases hx
  | 2,_=>rfl
 have k1:=key _ _ _ _ h1
 have k3:=key _ _ _ _ h3
 omega
theorem RowsC.setCell {b i:Nat} {u:Value} {ts:TypeId} (h:RowsC w N v S) (hb:Blk w b ts cs) (hc:∀ u ∈ cs,∀ b,u ≠ .bool b) (hu:∀ u ∈ cs,NoU u) (hv:v.ownBlock ≠ some b):RowsC (w.setCell ⟨b,i,none⟩ u) N v S:=by
 obtain ⟨xs,h1,h2,h3⟩:=h
 have hne:∀ g,v.ownBlock = some g → g ≠ b:=fun g e e2=>hv (by rw [e,e2])
 have hC:CB w b ts cs.size:=⟨cs,hb,rfl,hu⟩
 have hcell:∀ g j,g ≠ b → (w.setCell ⟨b,i,none⟩ u).cell? ⟨g,j,none⟩ = w.cell? ⟨g,j,none⟩:=fun g j hg=>World.cell?_setCell_other _ _ _ _ (fun e=>hg (congrArg Addr.block e).symm)
 refine ⟨xs,own_stays h1 (fun g hg=>Below.heap_setCell w ⟨b,i,none⟩ u g (hne g hg)),fun g hg j z e=>?_,fun g hg q hq=>?_⟩
 ·rw [hcell g j (hne g hg)] at e
  exact h2 g hg j z e
 ·obtain ⟨ra,rk,c0,hf,hr,hm⟩:=h3 g hg q hq
  refine ⟨ra,rk,by rw [hcell g _ (hne g hg)]; exact c0,hf,fun hn=>?_,hm.setX (hC.nodig i) (.inl (fun e=>hm.ne_blk hb hc e.symm)) u⟩
  obtain ⟨rb,ro,e,hne2,hF⟩:=hr hn
  exact ⟨rb,ro,e,hne2,fun c hc'=>(hF c hc').setX (hC.nodig i) (.inl (fun e=>(hF c hc').ne_blk hb hc e.symm)) u⟩
end
def ISys.upto (S:ISys) (j:Nat):Sys:={ S.all [] with m:=j }
structure BgB (N:Nat) (w:World) (n m gp gf gt gn:Nat) (vr:Value):Prop where
 blk:Blk w gp 80 #[.int .i64 (n:Int),vr,.slice (some ⟨gf,0,none⟩) n n,.slice (some ⟨gt,0,none⟩) n n,.slice none 0 0,.slice (some ⟨gn,0,none⟩) m m]
 fb:MadeB w gf 82 zeroBd n
 tb:MadeB w gt 82 zeroBd n
 nb:MadeB w gn 3 (.int .i64 0) m
 apart:gp ≠ gf ∧ gp ≠ gt ∧ gp ≠ gn ∧ gn ≠ gf ∧ gn ≠ gt ∧ gf ≠ gt
 le:N ≤ gp ∧ N ≤ gf ∧ N ≤ gt ∧ N ≤ gn
section
variable {w w':World} {n m gp gf gt gn N:Nat} {vr:Value} {row:Option Nat}
theorem MadeB.grown {g n:Nat} {e:TypeId} {z:Value} (h:MadeB w g e z n) (hb:w.grownBy w' row) (hg:some g ≠ row):MadeB w' g e z n:=by
 refine ⟨h.1.grown hb hg,fun i d hi hd=>?_⟩
 have h1:=h.2 i d hi hd
 rw [← h1]
 have h2:z.cells[d]? = some z.cells[d]:=Array.getElem?_eq_getElem hd
 rw [h2] at h1
 rw [h1]
 exact hb.cell h1 hg
theorem BgB.below (h:BgB N w n m gp gf gt gn vr) (hb:Below w.heap.size w w'):BgB N w' n m gp gf gt gn vr:=
 ⟨h.blk.below hb h.blk.lt,h.fb.below hb,h.tb.below hb,h.nb.below hb,h.apart,h.le⟩
theorem BgB.lt (h:BgB N w n m gp gf gt gn vr):gp < w.heap.size ∧ gf < w.heap.size ∧ gt < w.heap.size ∧ gn < w.heap.size:=⟨h.blk.lt,h.fb.1.lt,h.tb.1.lt,h.nb.1.lt⟩
theorem BgB.grown (h:BgB N w n m gp gf gt gn vr) (hb:w.grownBy w' row) (hr:∀ g,row = some g → g ≠ gp ∧ g ≠ gf ∧ g ≠ gt ∧ g ≠ gn):BgB N w' n m gp gf gt gn vr:=
 ⟨h.blk.grown hb (fun e=>(hr gp e.symm).1 rfl),h.fb.grown hb (fun e=>(hr gf e.symm).2.1 rfl),h.tb.grown hb (fun e=>(hr gt e.symm).2.2.1 rfl),h.nb.grown hb (fun e=>(hr gn e.symm).2.2.2 rfl),h.apart,h.le⟩
theorem BgB.set (h:BgB N w n m gp gf gt gn vr) (v':Value):BgB N (w.setCell ⟨gp,1,none⟩ v') n m gp gf gt gn v':=by
 obtain ⟨a1,a2,a3,a4,a5,a6⟩:=h.apart
 have e:w.setCell ⟨gp,1,none⟩ v' = putL gp w 1 [v']:=rfl
 refine ⟨h.blk.set_ 1 v',?_,?_,?_,h.apart,h.le⟩
 ·rw [e]; exact h.fb.putL_far (fun e=>a1 e.symm)
 ·rw [e]; exact h.tb.putL_far (fun e=>a2 e.symm)
 ·rw [e]; exact h.nb.putL_far (fun e=>a3 e.symm)
theorem search_calm {a b c d:Option Addr} {i j k l x y z u:Nat} {n:Int}:∀ v ∈ #[Value.int .i64 n,.slice a i j,.slice b k l,.slice c x y,.slice none 0 0,.slice d z u],NoU v ∧ ∀ b,v ≠ .bool b:=fun v hv=>by
 simp only [List.mem_toArray,List.mem_cons,List.not_mem_nil,or_false] at hv
 rcases hv with rfl | rfl | rfl | rfl | rfl | rfl
 ·exact ⟨NoU.i64 _,fun b e=>by cases e⟩
 ·exact ⟨NoU.slice _ _ _,fun b e=>by cases e⟩
 ·exact ⟨NoU.slice _ _ _,fun b e=>by cases e⟩
 ·exact ⟨NoU.slice _ _ _,fun b e=>by cases e⟩
 ·exact ⟨NoU.slice _ _ _,fun b e=>by cases e⟩
 ·exact ⟨NoU.slice _ _ _,fun b e=>by cases e⟩
theorem BgB.liw {S:ISys} {N1:Nat} (h:BgB N w S.n S.m gp gf gt gn vr) (hR:RowsC w N1 vr (S.upto S.m)):LiW N w S LS.first ⟨gp,gf,gt,gn,vr,.slice none 0 0⟩:=by
 obtain ⟨a1,a2,a3,a4,a5,a6⟩:=h.apart
 have hfl:∀ v,v < S.n → BAt w gf (v * 3) none:=fun v hv=>h.fb.bound hv
 have htp:∀ v,v < S.n → BAt w gt (v * 3) none:=fun v hv=>h.tb.bound hv
 have hnn:∀ i,i < S.m → w.cell? ⟨gn,i,none⟩ = some (.int .i64 0):=fun i hi=>by
  have e:=h.nb.2 i 0 hi (by decide)
  simpa [Value.cells] using e
 have hfb:CB w gf 82 (S.n * 3):=h.fb.1
 have htb:CB w gt 82 (S.n * 3):=h.tb.1
 have hnb:CB w gn 3 S.m:=by
  have e:=h.nb.1
  rwa [show (Value.int .i64 0).cells.size = 1 from rfl,Nat.mul_one] at e
 have hfree:∀ {g o:Nat} {q:Rat},FAt w g o q → (⟨gp,gf,gt,gn,vr,.slice none 0 0⟩:LSp).Free g:=fun {g o q} hF=>by
  obtain ⟨a,k,e,_⟩:=hR.form
  refine ⟨hF.ne_blk h.blk (by rw [e]; exact fun u hu=>(search_calm u hu).2),hF.ne_bound hfb hfl,hF.ne_bound htb htp,fun e=>?_,fun e=>by cases e⟩
  obtain ⟨cs,h1,h2,_⟩:=hnb
  refine hF.ne_blk h1 (fun u hu b e2=>?_) e
  subst e2
  obtain ⟨i,hi,hi2⟩:=Array.mem_iff_getElem.1 hu
  have h3:=hnn i (by omega)
  rw [h1.cell,Array.getElem?_eq_getElem hi,hi2] at h3
  cases h3
 refine ⟨h.blk,?_,hfb,hfl,htb,htp,hnb,hnn,⟨[],World.ownsRow_nil _ _ _ _,(fun g e=>by cases e),(fun g e=>by cases e)⟩,a6,?_,(fun g e=>by cases e),⟨a1,a2,a3,a4,a5⟩⟩
 ·obtain ⟨xs,h1,h2,h3⟩:=hR
  have hm:(S.all []).m = S.m:=rfl
  rcases h1.2 with ⟨rfl,h0⟩ | ⟨g,cap,cur,rfl,hg,_,hle,_⟩
  ·have h0':S.m = 0:=h0
   exact ⟨none,0,by rw [hm,h0'],by rw [hm,h0']; exact ⟨Nat.le_refl _,fun _=>rfl⟩,0,0,fun h=>by omega,fun i hi=>by omega⟩
  ·refine ⟨some ⟨g,0,none⟩,cap,rfl,⟨hle,fun e=>by cases e⟩,g,0,fun _=>rfl,fun i hi=>?_⟩
   obtain ⟨ra,rk,c0,hf,hr,hm⟩:=h3 g rfl i hi
   refine ⟨hfree hm,ra,rk,by rw [Nat.zero_add]; exact c0,hf,fun hn=>?_,by rw [Nat.zero_add]; exact hm⟩
   obtain ⟨rb,ro,e,_,hF⟩:=hr hn
   exact ⟨rb,ro,e,hfree (hF 0 hn),hF⟩
 ·exact h.le
theorem RowsC.next {S:ISys} {g j:Nat} {v v':Value} {xs:List Value} {m p:Bool} {a a2:Option Addr} {x k i i2:Nat}
  (h1:w.ownsRow N 99 5 v j xs) (h2:∀ g,v.ownBlock = some g → Calm w g) (h3:∀ g,v.ownBlock = some g → RowsX w g (S.upto j)) (hj:j < S.m)
  (hown:w'.ownsRow N 99 5 v' (j + 1) (xs ++ [.slice (some ⟨g,0,none⟩) S.n S.n,.bool m,.slice a x k,.bool p,.slice a2 i i2])) (hgrow:w.grownBy w' v.ownBlock) (hat:v'.ownBlock = v.ownBlock ∨ v'.ownBlock = some w.heap.size) (hcalm:∀ g,v'.ownBlock = some g → Calm w' g)
  (hg:v.ownBlock ≠ some g) (hU:∀ c,c < S.n → FAt w g (c * 4) ((S.A j c:Int):Rat)) (hM:FracV w (.agg #[.bool m,.slice a x k,.bool p,.slice a2 i i2]) ((S.most j:Int):Rat)):RowsC w' N v' (S.upto (j + 1)):=by
 refine RowsC.grow (S:=S.upto j) (k:=1) (j:=j) rfl h1 h2 h3 rfl rfl (fun _ _ _ _=>rfl) (fun _ _=>rfl) hown hgrow hat hcalm (fun d hd=>?_)
 obtain rfl:d = 0:=by omega
 refine ⟨some ⟨g,0,none⟩,S.n,m,a,x,k,p,a2,i,i2,fun e u hu=>by rw [Nat.zero_mul,Nat.zero_add]; exact hu,⟨Nat.le_refl _,fun e=>by cases e⟩,fun _=>⟨g,0,rfl,hg,fun c hc=>?_⟩,?_⟩
 ·have hc':c < S.n:=hc
  have e1:(S.upto (j + 1)).A (j + 0) c = ((S.A j c:Int):Rat):=by
   show (if c < S.n then (if j + 0 < S.m then ((S.A (j + 0) c:Int):Rat) else _) else 0) = _
   rw [if_pos hc',if_pos (by omega),Nat.add_zero]
  rw [e1,Nat.zero_add]
  exact hU c hc'
 ·have e1:(S.upto (j + 1)).most (j + 0) = ((S.most j:Int):Rat):=by
   show (if j + 0 < S.m then ((S.most (j + 0):Int):Rat) else _) = _
   rw [if_pos (by omega),Nat.add_zero]
  rw [e1]
  exact hM
end
def BeginPost (w:World) (S:ISys) (e:Ending) (w':World):Prop:=Below w.heap.size w w' ∧ ∃ L:LSp,e = .returned (.pointer (some ⟨L.p,0,none⟩)) ∧ LiW w.heap.size w' S LS.first L
set_option maxRecDepth 100000 in
set_option maxHeartbeats 12800000 in
theorem begin_any {S:ISys} {a:Option Addr} {cap b o:Nat} (w:World) (hn:S.n ≤ 400) (hm:S.m ≤ 1000) (ha:0 < S.m → a = some ⟨b,o,none⟩) (hR:IRowsV w b o S) (hA:∀ i c,i < S.m → c < S.n → Sm (S.A i c)) (hM:∀ i,i < S.m → Sm (S.most i)) :
  Calls Try.prog 26 #[.int .i64 (S.n:Int),.slice a S.m cap] w (BeginPost w S):=by
 generalize hP:BeginPost w S = Post
 have HP:=hide hP
 have HR:=hide hR
 have HA:=hide hA
 have HM:=hide hM
 have HAD:=hide ha
 obtain ⟨n,hn0⟩:∃ n,S.n = n:=⟨_,rfl⟩
 obtain ⟨m,hm0⟩:∃ n,S.m = n:=⟨_,rfl⟩
 have HN:=hide hn0
 have HMM:=hide hm0
 clear hP hR hA hM ha
 rw [hn0] at hn ⊢
 rw [hm0] at hm ⊢
 clear hn0 hm0
 go_enter Try.func26,Try.ntmps26
 go_wp2_with fail
 go_cut [5] from 11 to 20 (fun v5 wc=>∃ gp gf gt gn:Nat,v5 = .pointer (some ⟨gp,0,none⟩) ∧ Below w.heap.size w wc ∧ Hid (BgB w.heap.size wc n m gp gf gt gn (.slice none 0 0)))
 case first=>
  refine wp_region_held_drew (S:=fun w'=>Below w.heap.size w w') (by kernel_rfl) ((Below.refl _ _).drew) (fun hS=>?_)
  refine tkH 0 ⟨some 11,.move (.tmp 0),3,"lia.go:93",#[],none⟩ hS ?_
  try simp only [Act.put,sB,sC,sD]
  refine tkH 1 ⟨some 12,.move (.tmp 0),3,"lia.go:93",#[],none⟩ hS ?_
  try simp only [Act.put,sB,sC,sD]
  refine tkH 3 ⟨some 14,.move (.tmp 0),3,"lia.go:93",#[],none⟩ hS ?_
  try simp only [Act.put,sB,sC,sD]
  refine tkH 5 ⟨some 16,.move (.tmp 1),22,"lia.go:93",#[],none⟩ hS ?_
  try simp only [Act.put,sB,sC,sD]
  refine tkH 6 ⟨some 17,.call { callee:=.builtin .len,args:=#[.tmp 16],argTypes:=#[22] },3,"lia.go:93",#[eD 5],none⟩ hS ?_
  try simp only [Act.put,sB,sC,sD]
  refine wpAnyH_ready (rs:=[2,4,7]) (by kernel_rfl) (by simp) ?_
  refine AllReadyH.cons (o:=⟨some 13,.makeSlice 78 (.tmp 12) (.tmp 12),78,"lia.go:93",#[eD 1,eD 1],none⟩) rfl (fun K hK=>?_) (AllReadyH.cons (o:=⟨some 15,.makeSlice 78 (.tmp 14) (.tmp 14),78,"lia.go:93",#[eD 3,eD 3],none⟩) rfl (fun K hK=>?_) (AllReadyH.cons (o:=⟨some 18,.makeSlice 26 (.tmp 17) (.tmp 17),26,"lia.go:93",#[eD 6,eD 6],none⟩) rfl (fun K hK=>?_) AllReadyH.nil))
  ·have hle2:w.heap.size ≤ w.heap.size:=hS.size
   refine step_make_b (n:=n) (z:=zeroBd) rfl (.tmp 12) (.tmp 12) rfl Try.underlying78 infoBd rfl (by decide) (by decide) zeroBd_calm (by rfl) (by rfl) (by omega) ?_
   intro wK2 hMk2 hb1
   replace hMk2:MadeB wK2 w.heap.size 82 zeroBd n:=hMk2
   refine hK.out _ _ (kp0 hS hb1) (fun hS=>?_)
   clear hK K hb1
   try simp only [Act.put,sB,sC,sD]
   refine wpAnyH_ready (rs:=[4,7]) (by kernel_rfl) (by simp) ?_
   refine AllReadyH.cons (o:=⟨some 15,.makeSlice 78 (.tmp 14) (.tmp 14),78,"lia.go:93",#[eD 3,eD 3],none⟩) rfl (fun K hK=>?_) (AllReadyH.cons (o:=⟨some 18,.makeSlice 26 (.tmp 17) (.tmp 17),26,"lia.go:93",#[eD 6,eD 6],none⟩) rfl (fun K hK=>?_) AllReadyH.nil)
   ·have hlt2x4:w.heap.size < wK2.heap.size:=hMk2.1.lt
    have hle4:w.heap.size ≤ wK2.heap.size:=hS.size
    refine step_make_b (n:=n) (z:=zeroBd) rfl (.tmp 14) (.tmp 14) rfl Try.underlying78 infoBd rfl (by decide) (by decide) zeroBd_calm (by rfl) (by rfl) (by omega) ?_
    intro wK4 hMk4 hb1
    replace hMk4:MadeB wK4 wK2.heap.size 82 zeroBd n:=hMk4
    replace hMk2:=hMk2.below hb1
    refine hK.out _ _ (kp0 hS hb1) (fun hS=>?_)
    clear hK K hb1
    try simp only [Act.put,sB,sC,sD]
    refine wpAnyH_ready (rs:=[7]) (by kernel_rfl) (by simp) ?_
    refine AllReadyH.cons (o:=⟨some 18,.makeSlice 26 (.tmp 17) (.tmp 17),26,"lia.go:93",#[eD 6,eD 6],none⟩) rfl (fun K hK=>?_) AllReadyH.nil
    have hlt2x7:w.heap.size < wK4.heap.size:=hMk2.1.lt
    have hlt4x7:wK2.heap.size < wK4.heap.size:=hMk4.1.lt
    have hle7:w.heap.size ≤ wK4.heap.size:=hS.size
    refine step_make_b (n:=m) (z:=(.int .i64 0)) rfl (.tmp 17) (.tmp 17) rfl Try.underlying26 infoBN rfl (by decide) (by decide) zeroN_calm (by rfl) (by rfl) (by omega) ?_
    intro wK7 hMk7 hb1
    replace hMk7:MadeB wK7 wK4.heap.size 3 (.int .i64 0) m:=hMk7
    replace hMk2:=hMk2.below hb1
    replace hMk4:=hMk4.below hb1
    refine hK.out _ _ (kp0 hS hb1) (fun hS=>?_)
    clear hK K hb1
    try simp only [Act.put,sB,sC,sD]
    refine tkH 8 ⟨some 19,.build 80 #[(0,.tmp 11),(2,.tmp 13),(3,.tmp 15),(5,.tmp 18)],80,"lia.go:93",#[eD 0,eD 2,eD 4,eD 7],none⟩ hS ?_
    try simp only [Act.put,sB,sC,sD]
    refine wpAnyH_ready (rs:=[9]) (by kernel_rfl) (by simp) ?_
    refine AllReadyH.cons (o:=⟨some 20,.box 80 (.tmp 19),59,"lia.go:93",#[eD 8],none⟩) rfl (fun K hK=>?_) AllReadyH.nil
    have l2:=hMk2.1.lt
    have l4:=hMk4.1.lt
    have l7:=hMk7.1.lt
    have hleP:w.heap.size ≤ wK7.heap.size:=hS.size
    obtain ⟨WB,hWB⟩:∃ WB,wK7.alloc (.cells #[.int .i64 (n:Int),.slice none 0 0,.slice (some ⟨w.heap.size,0,none⟩) n n,.slice (some ⟨wK2.heap.size,0,none⟩) n n,.slice none 0 0,.slice (some ⟨wK4.heap.size,0,none⟩) m m] 80) = WB:=⟨_,rfl⟩
    have hbB:Below wK7.heap.size wK7 WB:=by rw [← hWB]; exact (Below.refl _ _).alloc (Nat.le_refl _) _
    have hBB:Below w.heap.size w WB:=hS.trans (hbB.mono hS.size)
    have HBB:Hid (BgB w.heap.size WB n m wK7.heap.size w.heap.size wK2.heap.size wK4.heap.size (.slice none 0 0)):=hide ⟨by rw [← hWB]; exact Blk.new _ _ _,hMk2.below hbB,hMk4.below hbB,hMk7.below hbB,by refine ⟨?_,?_,?_,?_,?_,?_⟩ <;> omega,by refine ⟨?_,?_,?_,?_⟩ <;> assumption⟩
    have HWB:=hide hWB
    clear hWB hbB
    go_simp
    try (rw [HWB.out])
    refine hK.out _ _ hBB (fun hS=>?_)
    clear hK K HWB
    try simp only [Act.put,sB,sC,sD]
    refine tkH 10 ⟨some 5,.assign (.tmp 20),59,"lia.go:93",#[eD 9,eP 0,eP 1,eP 2,eP 3,eP 4,eP 5,eP 6,eP 7,eP 8,eP 9],none⟩ hS ?_
    try simp only [Act.put,sB,sC,sD]
    refine wpAnyH_done (by kernel_rfl) ?_ _
    go_wp2_with fail
    go_meet
    exact ⟨_,w.heap.size,wK2.heap.size,wK4.heap.size,rfl,hBB,HBB⟩
   ·have hlt2x7:w.heap.size < wK2.heap.size:=hMk2.1.lt
    have hle7:w.heap.size ≤ wK2.heap.size:=hS.size
    refine step_make_b (n:=m) (z:=(.int .i64 0)) rfl (.tmp 17) (.tmp 17) rfl Try.underlying26 infoBN rfl (by decide) (by decide) zeroN_calm (by rfl) (by rfl) (by omega) ?_
    intro wK7 hMk7 hb1
    replace hMk7:MadeB wK7 wK2.heap.size 3 (.int .i64 0) m:=hMk7
    replace hMk2:=hMk2.below hb1
    refine hK.out _ _ (kp0 hS hb1) (fun hS=>?_)
    clear hK K hb1
    try simp only [Act.put,sB,sC,sD]
    refine wpAnyH_ready (rs:=[4]) (by kernel_rfl) (by simp) ?_
    refine AllReadyH.cons (o:=⟨some 15,.makeSlice 78 (.tmp 14) (.tmp 14),78,"lia.go:93",#[eD 3,eD 3],none⟩) rfl (fun K hK=>?_) AllReadyH.nil
    have hlt2x4:w.heap.size < wK7.heap.size:=hMk2.1.lt
    have hlt7x4:wK2.heap.size < wK7.heap.size:=hMk7.1.lt
    have hle4:w.heap.size ≤ wK7.heap.size:=hS.size
    refine step_make_b (n:=n) (z:=zeroBd) rfl (.tmp 14) (.tmp 14) rfl Try.underlying78 infoBd rfl (by decide) (by decide) zeroBd_calm (by rfl) (by rfl) (by omega) ?_
    intro wK4 hMk4 hb1
    replace hMk4:MadeB wK4 wK7.heap.size 82 zeroBd n:=hMk4
    replace hMk2:=hMk2.below hb1
    replace hMk7:=hMk7.below hb1
    refine hK.out _ _ (kp0 hS hb1) (fun hS=>?_)
    clear hK K hb1
    try simp only [Act.put,sB,sC,sD]
    refine tkH 8 ⟨some 19,.build 80 #[(0,.tmp 11),(2,.tmp 13),(3,.tmp 15),(5,.tmp 18)],80,"lia.go:93",#[eD 0,eD 2,eD 4,eD 7],none⟩ hS ?_
    try simp only [Act.put,sB,sC,sD]
    refine wpAnyH_ready (rs:=[9]) (by kernel_rfl) (by simp) ?_
    refine AllReadyH.cons (o:=⟨some 20,.box 80 (.tmp 19),59,"lia.go:93",#[eD 8],none⟩) rfl (fun K hK=>?_) AllReadyH.nil
    have l2:=hMk2.1.lt
    have l4:=hMk4.1.lt
    have l7:=hMk7.1.lt
    have hleP:w.heap.size ≤ wK4.heap.size:=hS.size
    obtain ⟨WB,hWB⟩:∃ WB,wK4.alloc (.cells #[.int .i64 (n:Int),.slice none 0 0,.slice (some ⟨w.heap.size,0,none⟩) n n,.slice (some ⟨wK7.heap.size,0,none⟩) n n,.slice none 0 0,.slice (some ⟨wK2.heap.size,0,none⟩) m m] 80) = WB:=⟨_,rfl⟩
    have hbB:Below wK4.heap.size wK4 WB:=by rw [← hWB]; exact (Below.refl _ _).alloc (Nat.le_refl _) _
    have hBB:Below w.heap.size w WB:=hS.trans (hbB.mono hS.size)
    have HBB:Hid (BgB w.heap.size WB n m wK4.heap.size w.heap.size wK7.heap.size wK2.heap.size (.slice none 0 0)):=hide ⟨by rw [← hWB]; exact Blk.new _ _ _,hMk2.below hbB,hMk4.below hbB,hMk7.below hbB,by refine ⟨?_,?_,?_,?_,?_,?_⟩ <;> omega,by refine ⟨?_,?_,?_,?_⟩ <;> assumption⟩
    have HWB:=hide hWB
    clear hWB hbB
    go_simp
    try (rw [HWB.out])
    refine hK.out _ _ hBB (fun hS=>?_)
    clear hK K HWB
    try simp only [Act.put,sB,sC,sD]
    refine tkH 10 ⟨some 5,.assign (.tmp 20),59,"lia.go:93",#[eD 9,eP 0,eP 1,eP 2,eP 3,eP 4,eP 5,eP 6,eP 7,eP 8,eP 9],none⟩ hS ?_
    try simp only [Act.put,sB,sC,sD]
    refine wpAnyH_done (by kernel_rfl) ?_ _
    go_wp2_with fail
    go_meet
    exact ⟨_,w.heap.size,wK7.heap.size,wK2.heap.size,rfl,hBB,HBB⟩
  ·have hle4:w.heap.size ≤ w.heap.size:=hS.size
   refine step_make_b (n:=n) (z:=zeroBd) rfl (.tmp 14) (.tmp 14) rfl Try.underlying78 infoBd rfl (by decide) (by decide) zeroBd_calm (by rfl) (by rfl) (by omega) ?_
   intro wK4 hMk4 hb1
   replace hMk4:MadeB wK4 w.heap.size 82 zeroBd n:=hMk4
   refine hK.out _ _ (kp0 hS hb1) (fun hS=>?_)
   clear hK K hb1
   try simp only [Act.put,sB,sC,sD]
   refine wpAnyH_ready (rs:=[2,7]) (by kernel_rfl) (by simp) ?_
   refine AllReadyH.cons (o:=⟨some 13,.makeSlice 78 (.tmp 12) (.tmp 12),78,"lia.go:93",#[eD 1,eD 1],none⟩) rfl (fun K hK=>?_) (AllReadyH.cons (o:=⟨some 18,.makeSlice 26 (.tmp 17) (.tmp 17),26,"lia.go:93",#[eD 6,eD 6],none⟩) rfl (fun K hK=>?_) AllReadyH.nil)
   ·have hlt4x2:w.heap.size < wK4.heap.size:=hMk4.1.lt
    have hle2:w.heap.size ≤ wK4.heap.size:=hS.size
    refine step_make_b (n:=n) (z:=zeroBd) rfl (.tmp 12) (.tmp 12) rfl Try.underlying78 infoBd rfl (by decide) (by decide) zeroBd_calm (by rfl) (by rfl) (by omega) ?_
    intro wK2 hMk2 hb1
    replace hMk2:MadeB wK2 wK4.heap.size 82 zeroBd n:=hMk2
    replace hMk4:=hMk4.below hb1
    refine hK.out _ _ (kp0 hS hb1) (fun hS=>?_)
    clear hK K hb1
    try simp only [Act.put,sB,sC,sD]
    refine wpAnyH_ready (rs:=[7]) (by kernel_rfl) (by simp) ?_
    refine AllReadyH.cons (o:=⟨some 18,.makeSlice 26 (.tmp 17) (.tmp 17),26,"lia.go:93",#[eD 6,eD 6],none⟩) rfl (fun K hK=>?_) AllReadyH.nil
    have hlt4x7:w.heap.size < wK2.heap.size:=hMk4.1.lt
    have hlt2x7:wK4.heap.size < wK2.heap.size:=hMk2.1.lt
    have hle7:w.heap.size ≤ wK2.heap.size:=hS.size
    refine step_make_b (n:=m) (z:=(.int .i64 0)) rfl (.tmp 17) (.tmp 17) rfl Try.underlying26 infoBN rfl (by decide) (by decide) zeroN_calm (by rfl) (by rfl) (by omega) ?_
    intro wK7 hMk7 hb1
    replace hMk7:MadeB wK7 wK2.heap.size 3 (.int .i64 0) m:=hMk7
    replace hMk4:=hMk4.below hb1
    replace hMk2:=hMk2.below hb1
    refine hK.out _ _ (kp0 hS hb1) (fun hS=>?_)
    clear hK K hb1
    try simp only [Act.put,sB,sC,sD]
    refine tkH 8 ⟨some 19,.build 80 #[(0,.tmp 11),(2,.tmp 13),(3,.tmp 15),(5,.tmp 18)],80,"lia.go:93",#[eD 0,eD 2,eD 4,eD 7],none⟩ hS ?_
    try simp only [Act.put,sB,sC,sD]
    refine wpAnyH_ready (rs:=[9]) (by kernel_rfl) (by simp) ?_
    refine AllReadyH.cons (o:=⟨some 20,.box 80 (.tmp 19),59,"lia.go:93",#[eD 8],none⟩) rfl (fun K hK=>?_) AllReadyH.nil
    have l2:=hMk2.1.lt
    have l4:=hMk4.1.lt
    have l7:=hMk7.1.lt
    have hleP:w.heap.size ≤ wK7.heap.size:=hS.size
    obtain ⟨WB,hWB⟩:∃ WB,wK7.alloc (.cells #[.int .i64 (n:Int),.slice none 0 0,.slice (some ⟨wK4.heap.size,0,none⟩) n n,.slice (some ⟨w.heap.size,0,none⟩) n n,.slice none 0 0,.slice (some ⟨wK2.heap.size,0,none⟩) m m] 80) = WB:=⟨_,rfl⟩
    have hbB:Below wK7.heap.size wK7 WB:=by rw [← hWB]; exact (Below.refl _ _).alloc (Nat.le_refl _) _
    have hBB:Below w.heap.size w WB:=hS.trans (hbB.mono hS.size)
    have HBB:Hid (BgB w.heap.size WB n m wK7.heap.size wK4.heap.size w.heap.size wK2.heap.size (.slice none 0 0)):=hide ⟨by rw [← hWB]; exact Blk.new _ _ _,hMk2.below hbB,hMk4.below hbB,hMk7.below hbB,by refine ⟨?_,?_,?_,?_,?_,?_⟩ <;> omega,by refine ⟨?_,?_,?_,?_⟩ <;> assumption⟩
    have HWB:=hide hWB
    clear hWB hbB
    go_simp
    try (rw [HWB.out])
    refine hK.out _ _ hBB (fun hS=>?_)
    clear hK K HWB
    try simp only [Act.put,sB,sC,sD]
    refine tkH 10 ⟨some 5,.assign (.tmp 20),59,"lia.go:93",#[eD 9,eP 0,eP 1,eP 2,eP 3,eP 4,eP 5,eP 6,eP 7,eP 8,eP 9],none⟩ hS ?_
    try simp only [Act.put,sB,sC,sD]
    refine wpAnyH_done (by kernel_rfl) ?_ _
    go_wp2_with fail
    go_meet
    exact ⟨_,wK4.heap.size,w.heap.size,wK2.heap.size,rfl,hBB,HBB⟩
   ·have hlt4x7:w.heap.size < wK4.heap.size:=hMk4.1.lt
    have hle7:w.heap.size ≤ wK4.heap.size:=hS.size
    refine step_make_b (n:=m) (z:=(.int .i64 0)) rfl (.tmp 17) (.tmp 17) rfl Try.underlying26 infoBN rfl (by decide) (by decide) zeroN_calm (by rfl) (by rfl) (by omega) ?_
    intro wK7 hMk7 hb1
    replace hMk7:MadeB wK7 wK4.heap.size 3 (.int .i64 0) m:=hMk7
    replace hMk4:=hMk4.below hb1
    refine hK.out _ _ (kp0 hS hb1) (fun hS=>?_)
    clear hK K hb1
    try simp only [Act.put,sB,sC,sD]
    refine wpAnyH_ready (rs:=[2]) (by kernel_rfl) (by simp) ?_
    refine AllReadyH.cons (o:=⟨some 13,.makeSlice 78 (.tmp 12) (.tmp 12),78,"lia.go:93",#[eD 1,eD 1],none⟩) rfl (fun K hK=>?_) AllReadyH.nil
    have hlt4x2:w.heap.size < wK7.heap.size:=hMk4.1.lt
    have hlt7x2:wK4.heap.size < wK7.heap.size:=hMk7.1.lt
    have hle2:w.heap.size ≤ wK7.heap.size:=hS.size
    refine step_make_b (n:=n) (z:=zeroBd) rfl (.tmp 12) (.tmp 12) rfl Try.underlying78 infoBd rfl (by decide) (by decide) zeroBd_calm (by rfl) (by rfl) (by omega) ?_
    intro wK2 hMk2 hb1
    replace hMk2:MadeB wK2 wK7.heap.size 82 zeroBd n:=hMk2
    replace hMk4:=hMk4.below hb1
    replace hMk7:=hMk7.below hb1
    refine hK.out _ _ (kp0 hS hb1) (fun hS=>?_)
    clear hK K hb1
    try simp only [Act.put,sB,sC,sD]
    refine tkH 8 ⟨some 19,.build 80 #[(0,.tmp 11),(2,.tmp 13),(3,.tmp 15),(5,.tmp 18)],80,"lia.go:93",#[eD 0,eD 2,eD 4,eD 7],none⟩ hS ?_
    try simp only [Act.put,sB,sC,sD]
    refine wpAnyH_ready (rs:=[9]) (by kernel_rfl) (by simp) ?_
    refine AllReadyH.cons (o:=⟨some 20,.box 80 (.tmp 19),59,"lia.go:93",#[eD 8],none⟩) rfl (fun K hK=>?_) AllReadyH.nil
    have l2:=hMk2.1.lt
    have l4:=hMk4.1.lt
    have l7:=hMk7.1.lt
    have hleP:w.heap.size ≤ wK2.heap.size:=hS.size
    obtain ⟨WB,hWB⟩:∃ WB,wK2.alloc (.cells #[.int .i64 (n:Int),.slice none 0 0,.slice (some ⟨wK7.heap.size,0,none⟩) n n,.slice (some ⟨w.heap.size,0,none⟩) n n,.slice none 0 0,.slice (some ⟨wK4.heap.size,0,none⟩) m m] 80) = WB:=⟨_,rfl⟩
    have hbB:Below wK2.heap.size wK2 WB:=by rw [← hWB]; exact (Below.refl _ _).alloc (Nat.le_refl _) _
    have hBB:Below w.heap.size w WB:=hS.trans (hbB.mono hS.size)
    have HBB:Hid (BgB w.heap.size WB n m wK2.heap.size wK7.heap.size w.heap.size wK4.heap.size (.slice none 0 0)):=hide ⟨by rw [← hWB]; exact Blk.new _ _ _,hMk2.below hbB,hMk4.below hbB,hMk7.below hbB,by refine ⟨?_,?_,?_,?_,?_,?_⟩ <;> omega,by refine ⟨?_,?_,?_,?_⟩ <;> assumption⟩
    have HWB:=hide hWB
    clear hWB hbB
    go_simp
    try (rw [HWB.out])
    refine hK.out _ _ hBB (fun hS=>?_)
    clear hK K HWB
    try simp only [Act.put,sB,sC,sD]
    refine tkH 10 ⟨some 5,.assign (.tmp 20),59,"lia.go:93",#[eD 9,eP 0,eP 1,eP 2,eP 3,eP 4,eP 5,eP 6,eP 7,eP 8,eP 9],none⟩ hS ?_
    try simp only [Act.put,sB,sC,sD]
    refine wpAnyH_done (by kernel_rfl) ?_ _
    go_wp2_with fail
    go_meet
    exact ⟨_,wK7.heap.size,w.heap.size,wK4.heap.size,rfl,hBB,HBB⟩
  ·have hle7:w.heap.size ≤ w.heap.size:=hS.size
   refine step_make_b (n:=m) (z:=(.int .i64 0)) rfl (.tmp 17) (.tmp 17) rfl Try.underlying26 infoBN rfl (by decide) (by decide) zeroN_calm (by rfl) (by rfl) (by omega) ?_
   intro wK7 hMk7 hb1
   replace hMk7:MadeB wK7 w.heap.size 3 (.int .i64 0) m:=hMk7
   refine hK.out _ _ (kp0 hS hb1) (fun hS=>?_)
   clear hK K hb1
   try simp only [Act.put,sB,sC,sD]
   refine wpAnyH_ready (rs:=[2,4]) (by kernel_rfl) (by simp) ?_
   refine AllReadyH.cons (o:=⟨some 13,.makeSlice 78 (.tmp 12) (.tmp 12),78,"lia.go:93",#[eD 1,eD 1],none⟩) rfl (fun K hK=>?_) (AllReadyH.cons (o:=⟨some 15,.makeSlice 78 (.tmp 14) (.tmp 14),78,"lia.go:93",#[eD 3,eD 3],none⟩) rfl (fun K hK=>?_) AllReadyH.nil)
   ·have hlt7x2:w.heap.size < wK7.heap.size:=hMk7.1.lt
    have hle2:w.heap.size ≤ wK7.heap.size:=hS.size
    refine step_make_b (n:=n) (z:=zeroBd) rfl (.tmp 12) (.tmp 12) rfl Try.underlying78 infoBd rfl (by decide) (by decide) zeroBd_calm (by rfl) (by rfl) (by omega) ?_
    intro wK2 hMk2 hb1
    replace hMk2:MadeB wK2 wK7.heap.size 82 zeroBd n:=hMk2
    replace hMk7:=hMk7.below hb1
    refine hK.out _ _ (kp0 hS hb1) (fun hS=>?_)
    clear hK K hb1
    try simp only [Act.put,sB,sC,sD]
    refine wpAnyH_ready (rs:=[4]) (by kernel_rfl) (by simp) ?_
    refine AllReadyH.cons (o:=⟨some 15,.makeSlice 78 (.tmp 14) (.tmp 14),78,"lia.go:93",#[eD 3,eD 3],none⟩) rfl (fun K hK=>?_) AllReadyH.nil
    have hlt7x4:w.heap.size < wK2.heap.size:=hMk7.1.lt
    have hlt2x4:wK7.heap.size < wK2.heap.size:=hMk2.1.lt
    have hle4:w.heap.size ≤ wK2.heap.size:=hS.size
    refine step_make_b (n:=n) (z:=zeroBd) rfl (.tmp 14) (.tmp 14) rfl Try.underlying78 infoBd rfl (by decide) (by decide) zeroBd_calm (by rfl) (by rfl) (by omega) ?_
    intro wK4 hMk4 hb1
    replace hMk4:MadeB wK4 wK2.heap.size 82 zeroBd n:=hMk4
    replace hMk7:=hMk7.below hb1
    replace hMk2:=hMk2.below hb1
    refine hK.out _ _ (kp0 hS hb1) (fun hS=>?_)
    clear hK K hb1
    try simp only [Act.put,sB,sC,sD]
    refine tkH 8 ⟨some 19,.build 80 #[(0,.tmp 11),(2,.tmp 13),(3,.tmp 15),(5,.tmp 18)],80,"lia.go:93",#[eD 0,eD 2,eD 4,eD 7],none⟩ hS ?_
    try simp only [Act.put,sB,sC,sD]
    refine wpAnyH_ready (rs:=[9]) (by kernel_rfl) (by simp) ?_
    refine AllReadyH.cons (o:=⟨some 20,.box 80 (.tmp 19),59,"lia.go:93",#[eD 8],none⟩) rfl (fun K hK=>?_) AllReadyH.nil
    have l2:=hMk2.1.lt
    have l4:=hMk4.1.lt
    have l7:=hMk7.1.lt
    have hleP:w.heap.size ≤ wK4.heap.size:=hS.size
    obtain ⟨WB,hWB⟩:∃ WB,wK4.alloc (.cells #[.int .i64 (n:Int),.slice none 0 0,.slice (some ⟨wK7.heap.size,0,none⟩) n n,.slice (some ⟨wK2.heap.size,0,none⟩) n n,.slice none 0 0,.slice (some ⟨w.heap.size,0,none⟩) m m] 80) = WB:=⟨_,rfl⟩
    have hbB:Below wK4.heap.size wK4 WB:=by rw [← hWB]; exact (Below.refl _ _).alloc (Nat.le_refl _) _
    have hBB:Below w.heap.size w WB:=hS.trans (hbB.mono hS.size)
    have HBB:Hid (BgB w.heap.size WB n m wK4.heap.size wK7.heap.size wK2.heap.size w.heap.size (.slice none 0 0)):=hide ⟨by rw [← hWB]; exact Blk.new _ _ _,hMk2.below hbB,hMk4.below hbB,hMk7.below hbB,by refine ⟨?_,?_,?_,?_,?_,?_⟩ <;> omega,by refine ⟨?_,?_,?_,?_⟩ <;> assumption⟩
    have HWB:=hide hWB
    clear hWB hbB
    go_simp
    try (rw [HWB.out])
    refine hK.out _ _ hBB (fun hS=>?_)
    clear hK K HWB
    try simp only [Act.put,sB,sC,sD]
    refine tkH 10 ⟨some 5,.assign (.tmp 20),59,"lia.go:93",#[eD 9,eP 0,eP 1,eP 2,eP 3,eP 4,eP 5,eP 6,eP 7,eP 8,eP 9],none⟩ hS ?_
    try simp only [Act.put,sB,sC,sD]
    refine wpAnyH_done (by kernel_rfl) ?_ _
    go_wp2_with fail
    go_meet
    exact ⟨_,wK7.heap.size,wK2.heap.size,w.heap.size,rfl,hBB,HBB⟩
   ·have hlt7x4:w.heap.size < wK7.heap.size:=hMk7.1.lt
    have hle4:w.heap.size ≤ wK7.heap.size:=hS.size
    refine step_make_b (n:=n) (z:=zeroBd) rfl (.tmp 14) (.tmp 14) rfl Try.underlying78 infoBd rfl (by decide) (by decide) zeroBd_calm (by rfl) (by rfl) (by omega) ?_
    intro wK4 hMk4 hb1
    replace hMk4:MadeB wK4 wK7.heap.size 82 zeroBd n:=hMk4
    replace hMk7:=hMk7.below hb1
    refine hK.out _ _ (kp0 hS hb1) (fun hS=>?_)
    clear hK K hb1
    try simp only [Act.put,sB,sC,sD]
    refine wpAnyH_ready (rs:=[2]) (by kernel_rfl) (by simp) ?_
    refine AllReadyH.cons (o:=⟨some 13,.makeSlice 78 (.tmp 12) (.tmp 12),78,"lia.go:93",#[eD 1,eD 1],none⟩) rfl (fun K hK=>?_) AllReadyH.nil
    have hlt7x2:w.heap.size < wK4.heap.size:=hMk7.1.lt
    have hlt4x2:wK7.heap.size < wK4.heap.size:=hMk4.1.lt
    have hle2:w.heap.size ≤ wK4.heap.size:=hS.size
    refine step_make_b (n:=n) (z:=zeroBd) rfl (.tmp 12) (.tmp 12) rfl Try.underlying78 infoBd rfl (by decide) (by decide) zeroBd_calm (by rfl) (by rfl) (by omega) ?_
    intro wK2 hMk2 hb1
    replace hMk2:MadeB wK2 wK4.heap.size 82 zeroBd n:=hMk2
    replace hMk7:=hMk7.below hb1
    replace hMk4:=hMk4.below hb1
    refine hK.out _ _ (kp0 hS hb1) (fun hS=>?_)
    clear hK K hb1
    try simp only [Act.put,sB,sC,sD]
    refine tkH 8 ⟨some 19,.build 80 #[(0,.tmp 11),(2,.tmp 13),(3,.tmp 15),(5,.tmp 18)],80,"lia.go:93",#[eD 0,eD 2,eD 4,eD 7],none⟩ hS ?_
    try simp only [Act.put,sB,sC,sD]
    refine wpAnyH_ready (rs:=[9]) (by kernel_rfl) (by simp) ?_
    refine AllReadyH.cons (o:=⟨some 20,.box 80 (.tmp 19),59,"lia.go:93",#[eD 8],none⟩) rfl (fun K hK=>?_) AllReadyH.nil
    have l2:=hMk2.1.lt
    have l4:=hMk4.1.lt
    have l7:=hMk7.1.lt
    have hleP:w.heap.size ≤ wK2.heap.size:=hS.size
    obtain ⟨WB,hWB⟩:∃ WB,wK2.alloc (.cells #[.int .i64 (n:Int),.slice none 0 0,.slice (some ⟨wK4.heap.size,0,none⟩) n n,.slice (some ⟨wK7.heap.size,0,none⟩) n n,.slice none 0 0,.slice (some ⟨w.heap.size,0,none⟩) m m] 80) = WB:=⟨_,rfl⟩
    have hbB:Below wK2.heap.size wK2 WB:=by rw [← hWB]; exact (Below.refl _ _).alloc (Nat.le_refl _) _
    have hBB:Below w.heap.size w WB:=hS.trans (hbB.mono hS.size)
    have HBB:Hid (BgB w.heap.size WB n m wK2.heap.size wK4.heap.size wK7.heap.size w.heap.size (.slice none 0 0)):=hide ⟨by rw [← hWB]; exact Blk.new _ _ _,hMk2.below hbB,hMk4.below hbB,hMk7.below hbB,by refine ⟨?_,?_,?_,?_,?_,?_⟩ <;> omega,by refine ⟨?_,?_,?_,?_⟩ <;> assumption⟩
    have HWB:=hide hWB
    clear hWB hbB
    go_simp
    try (rw [HWB.out])
    refine hK.out _ _ hBB (fun hS=>?_)
    clear hK K HWB
    try simp only [Act.put,sB,sC,sD]
    refine tkH 10 ⟨some 5,.assign (.tmp 20),59,"lia.go:93",#[eD 9,eP 0,eP 1,eP 2,eP 3,eP 4,eP 5,eP 6,eP 7,eP 8,eP 9],none⟩ hS ?_
    try simp only [Act.put,sB,sC,sD]
    refine wpAnyH_done (by kernel_rfl) ?_ _
    go_wp2_with fail
    go_meet
    exact ⟨_,wK4.heap.size,wK7.heap.size,w.heap.size,rfl,hBB,HBB⟩
 case rest=>
  obtain ⟨gp,gf,gt,gn,rfl,hBc,HB0⟩:=hcut
  obtain ⟨N1,hN1⟩:∃ N1,wc.heap.size = N1:=⟨_,rfl⟩
  have HN1:Hid (gp < N1 ∧ gf < N1 ∧ gt < N1 ∧ gn < N1):=hide (by rw [← hN1]; exact HB0.out.lt)
  have HC0:Hid (RowsC wc N1 (.slice none 0 0) (S.upto 0)):=hide ⟨[],World.ownsRow_nil _ _ _ _,(fun g e=>by cases e),(fun g e=>by cases e)⟩
  have hN1s:w.heap.size ≤ N1:=by rw [← hN1]; exact hBc.size
  have hN1c:N1 ≤ wc.heap.size:=by omega
  clear hN1
  go_wp2_with fail
  go_loopg [23] m (fun k v23 wr=>∃ (j:Nat) (vr:Value),j + k = m ∧ v23 = .int .i64 (j:Int) ∧ Below w.heap.size w wr ∧ N1 ≤ wr.heap.size ∧ Hid (BgB w.heap.size wr n m gp gf gt gn vr) ∧ Hid (RowsC wr N1 vr (S.upto j)))
  case atStart=>exact ⟨0,_,by omega,rfl,hBc,hN1c,HB0,HC0⟩
  case round=>
   clear HB0 HC0 hBc hN1c
   obtain ⟨j,vr,hjk,rfl,hB,hN1r,HB,HC⟩:=hrel
   rcases Nat.eq_zero_or_pos gk with h0 | h0
   ·subst h0
    obtain rfl:j = m:=by omega
    have HE:Hid (Post (.returned (.pointer (some ⟨gp,0,none⟩))) wr):=hide (by
     rw [← HP.out]
     refine ⟨hB,⟨gp,gf,gt,gn,vr,.slice none 0 0⟩,rfl,?_⟩
     have h1:=HB.out
     have h2:=HC.out
     rw [← HN.out,← HMM.out] at h1
     rw [← HMM.out] at h2
     exact h1.liw h2)
    clear hjk HB HC
    go_wp2_with fail
    exact HE.out
   ·have hj:j < m:=by omega
    have ej:(j:Int) < (m:Int):=by omega
    have hjS:j < S.m:=by rw [HMM.out]; exact hj
    obtain rfl:=HAD.out (by omega)
    obtain ⟨ra,rk,r0,rfit,rrow,rmost⟩:=HR.out j hjS
    obtain ⟨mn,ma,ml,mk,m0,m1,hmz⟩:=rmost
    rw [HN.out] at r0 rfit
    have HROW:=hide rrow
    have smj:=HM.out j hjS
    clear rrow
    replace r0:=cellB r0 hB (Nat.le_refl _)
    replace m0:=cellB m0 hB (Nat.le_refl _)
    replace m1:=cellB m1 hB (Nat.le_refl _)
    replace hmz:=hmz.below hB (Nat.le_refl _)
    obtain ⟨W2,hW2⟩:∃ W2,wr.alloc (.cells #[.slice ra n rk,.bool mn,.slice ma ml mk] 48) = W2:=⟨_,rfl⟩
    obtain ⟨g7,hg7⟩:∃ g,wr.heap.size = g:=⟨_,rfl⟩
    have b7:Blk W2 g7 48 #[.slice ra n rk,.bool mn,.slice ma ml mk]:=by rw [← hW2,← hg7]; exact Blk.new _ _ _
    have hb2:Below wr.heap.size wr W2:=by rw [← hW2]; exact (Below.refl _ _).alloc (Nat.le_refl _) _
    have hB2:Below w.heap.size w W2:=hB.trans (hb2.mono hB.size)
    have HB2:Hid (BgB w.heap.size W2 n m gp gf gt gn vr):=hide (HB.out.below hb2)
    have HC2:Hid (RowsC W2 N1 vr (S.upto j)):=hide (HC.out.below hb2)
    have hm2:IntV W2 (.agg #[.bool mn,.slice ma ml mk]) (S.most j):=hmz.below hb2 (Nat.le_refl _)
    have hN2:N1 ≤ W2.heap.size:=Nat.le_trans hN1r hb2.size
    have HVL:Hid (∀ g,vr.ownBlock = some g → N1 ≤ g ∧ g < W2.heap.size):=hide HC2.out.lt
    have HW2:=hide hW2
    have HG7:=hide hg7
    clear hW2 hg7 hmz HB HC hN1r hB
    go_upto_region 5 with (fail)
    rw [HW2.out,HG7.out]
    clear HW2 HG7 hb2 r0 m0 m1
    obtain ⟨x0,x1,x2,-⟩:=b7.c3
    go_cut [8] from 27 to 32 (fun v8 wc=>∃ (gU g8:Nat) (qn:Bool) (qa:Option Addr) (ql qk:Nat) (qm:Bool) (qb:Option Addr) (qi qj:Nat),v8 = .pointer (some ⟨g8,0,none⟩) ∧ W2.heap.size ≤ gU ∧ W2.heap.size ≤ g8 ∧ gU ≠ g8 ∧ Below W2.heap.size W2 wc ∧ Hid (MadeB wc gU 71 zeroF n) ∧ Blk wc g8 99 #[.slice (some ⟨gU,0,none⟩) n n,.bool qn,.slice qa ql qk,.bool qm,.slice qb qi qj] ∧ Hid (FracV wc (.agg #[.bool qn,.slice qa ql qk,.bool qm,.slice qb qi qj]) ((S.most j:Int):Rat)))
    case first=>
     refine wp_region_held_drew (S:=fun w'=>w'.cell? ⟨g7,1,none⟩ = some (.bool mn) ∧ w'.cell? ⟨g7,2,none⟩ = some (.slice ma ml mk) ∧ Below W2.heap.size W2 w') (by kernel_rfl) ⟨x1,x2,(Below.refl _ _).drew⟩ (fun hS=>?_)
     refine tkH 0 ⟨some 27,.move (.tmp 0),3,"lia.go:100",#[],none⟩ hS ?_
     try simp only [Act.put,sB,sC,sD]
     refine tkH 2 ⟨some 29,.fieldAddr 48 (.tmp 7) 1,0,"lia.go:100",#[],none⟩ hS ?_
     try simp only [Act.put,sB,sC,sD]
     refine tkH 3 ⟨some 30,.load 38 (.tmp 29),38,"lia.go:100",#[eD 2],none⟩ hS ?_
     try simp only [Act.put,sB,sC,sD]
     refine wpAnyH_ready (rs:=[1,4,6]) (by kernel_rfl) (by simp) ?_
     refine AllReadyH.cons (o:=⟨some 28,.makeSlice 61 (.tmp 27) (.tmp 27),61,"lia.go:100",#[eD 0,eD 0],none⟩) rfl (fun K hK=>?_) (AllReadyH.cons (o:=⟨some 31,.call { callee:=.value (.func 49),args:=#[.tmp 30],argTypes:=#[38] },71,"lia.go:100",#[eD 3],none⟩) rfl (fun K hK=>?_) (AllReadyH.cons (o:=⟨some 8,.alloc 99,0,"lia.go:100",#[],none⟩) rfl (fun K hK=>?_) AllReadyH.nil))
     ·have hgU:W2.heap.size ≤ W2.heap.size:=hS.2.2.size
      refine step_make_b (n:=n) (z:=zeroF) rfl (.tmp 27) (.tmp 27) rfl Try.underlying61 infoF rfl (by decide) (by decide) zeroF_calm (by rfl) (by rfl) (by omega) ?_
      intro wK hMk hb1
      replace hMk:MadeB wK W2.heap.size 71 zeroF n:=hMk
      refine hK.out _ _ (kp2 hS hb1) (fun hS=>?_)
      clear hK K
      clear hb1
      try simp only [Act.put,sB,sC,sD]
      refine wpAnyH_ready (rs:=[4,6]) (by kernel_rfl) (by simp) ?_
      refine AllReadyH.cons (o:=⟨some 31,.call { callee:=.value (.func 49),args:=#[.tmp 30],argTypes:=#[38] },71,"lia.go:100",#[eD 3],none⟩) rfl (fun K hK=>?_) (AllReadyH.cons (o:=⟨some 8,.alloc 99,0,"lia.go:100",#[],none⟩) rfl (fun K hK=>?_) AllReadyH.nil)
      ·go_simp
       (go_at_call 49; (with_reducible refine (FOf2_any _ (hm2.below hS.2.2 (Nat.le_refl _)) smj).mono ?_); rintro e wC ⟨rC,rfl,hC,hb1⟩)
       obtain ⟨qn,qa,ql,qk,qm,qb,qi,qj,rfl,-,-⟩:=FracV.parts hC
       go_wp2_with fail
       refine hK.out _ _ (kp2 hS hb1) (fun hS=>?_)
       clear hK K
       replace hMk:=hMk.below hb1
       clear hb1
       try simp only [Act.put,sB,sC,sD]
       refine tkH 5 ⟨some 32,.build 99 #[(0,.tmp 28),(1,.tmp 31)],99,"lia.go:100",#[eD 1,eD 4],none⟩ hS ?_
       try simp only [Act.put,sB,sC,sD]
       refine wpAnyH_ready (rs:=[6]) (by kernel_rfl) (by simp) ?_
       refine AllReadyH.cons (o:=⟨some 8,.alloc 99,0,"lia.go:100",#[],none⟩) rfl (fun K hK=>?_) AllReadyH.nil
       have hlt:=hMk.1.lt
       have hg9:W2.heap.size ≤ wC.heap.size:=hS.2.2.size
       obtain ⟨wA,hwA⟩:∃ wA,(wC.alloc (.cells #[.slice none 0 0,.bool false,.slice none 0 0,.bool false,.slice none 0 0] 99)) = wA:=⟨_,rfl⟩
       have b9:Blk wA wC.heap.size 99 #[.slice none 0 0,.bool false,.slice none 0 0,.bool false,.slice none 0 0]:=by rw [← hwA]; exact Blk.new wC _ _
       have hb1:Below wC.heap.size wC wA:=by rw [← hwA]; exact (Below.refl wC.heap.size wC).alloc (Nat.le_refl _) _
       have HWA:=hide hwA
       clear hwA
       go_simp
       try (rw [HWA.out])
       refine hK.out _ _ (kp2 hS hb1) (fun hS=>?_)
       clear hK K HWA
       replace hMk:=hMk.below hb1
       replace hC:=hC.below hb1 (Nat.le_refl _)
       clear hb1
       try simp only [Act.put,sB,sC,sD]
       refine wpAnyH_ready (rs:=[7]) (by kernel_rfl) (by simp) ?_
       refine AllReadyH.cons (o:=⟨none,.store 99 (.tmp 8) (.tmp 32),0,"lia.go:100",#[eD 6,eD 5,eC 4,eP 0,eP 1,eP 2,eP 3,eP 4,eP 5,eP 6],none⟩) rfl (fun K hK=>?_) AllReadyH.nil
       have hneq:W2.heap.size ≠ wC.heap.size:=(Nat.ne_of_lt hlt)
       have hCB:CB wA wC.heap.size 99 5:=⟨_,b9,rfl,fun u hu=>row_calm none 0 0 false none 0 0 false none 0 0 u (by simpa using hu)⟩
       have hvc:=row_calm (some ⟨W2.heap.size,0,none⟩) n n qn qa ql qk qm qb qi qj
       obtain ⟨WN,hWN⟩:∃ WN,putL wC.heap.size wA 0 [.slice (some ⟨W2.heap.size,0,none⟩) n n,.bool qn,.slice qa ql qk,.bool qm,.slice qb qi qj] = WN:=⟨_,rfl⟩
       have hMN:Hid (MadeB WN W2.heap.size 71 zeroF n):=hide (by rw [← hWN]; exact hMk.putL_far hneq)
       have hQN:Hid (FracV WN (.agg #[.bool qn,.slice qa ql qk,.bool qm,.slice qb qi qj]) ((S.most j:Int):Rat)):=hide (by rw [← hWN]; exact hC.putL hCB hvc)
       have hBN:Blk WN wC.heap.size 99 #[.slice (some ⟨W2.heap.size,0,none⟩) n n,.bool qn,.slice qa ql qk,.bool qm,.slice qb qi qj]:=by rw [← hWN]; exact ((((b9.set_ 0 _).set_ 1 _).set_ 2 _).set_ 3 _).set_ 4 _
       have hBW:Below W2.heap.size W2 WN:=by rw [← hWN]; exact below_putL hS.2.2 hg9
       have k1:WN.cell? ⟨g7,1,none⟩ = some (.bool mn):=by rw [← hWN]; exact (cell_putL (.inl (show g7 ≠ wC.heap.size from fun e=>by have:=b7.lt; omega))).trans hS.1
       have k2:WN.cell? ⟨g7,2,none⟩ = some (.slice ma ml mk):=by rw [← hWN]; exact (cell_putL (.inl (show g7 ≠ wC.heap.size from fun e=>by have:=b7.lt; omega))).trans hS.2.1
       have z0:wA.cell? ⟨wC.heap.size,0,none⟩ = some (.slice none 0 0):=b9.cell 0
       have z1:wA.cell? ⟨wC.heap.size,1,none⟩ = some (.bool false):=b9.cell 1
       have z2:wA.cell? ⟨wC.heap.size,2,none⟩ = some (.slice none 0 0):=b9.cell 2
       have z3:wA.cell? ⟨wC.heap.size,3,none⟩ = some (.bool false):=b9.cell 3
       have z4:wA.cell? ⟨wC.heap.size,4,none⟩ = some (.slice none 0 0):=b9.cell 4
       have f0:=b9.frozen 0
       have f1:=b9.frozen 1
       have f2:=b9.frozen 2
       have f3:=b9.frozen 3
       have f4:=b9.frozen 4
       simp only [putL] at hWN
       have HWN:=hide hWN
       clear hWN
       go_simp
       refine hK.out _ _ (by rw [HWN.out]; exact ⟨k1,k2,hBW⟩) (fun hS=>?_)
       clear hK K hS
       try simp only [Act.put,sB,sC,sD]
       refine wpAnyH_done (by kernel_rfl) ?_ _
       rw [HWN.out]
       clear HWN z0 z1 z2 z3 z4 f0 f1 f2 f3 f4 k1 k2
       go_wp2_with fail
       go_meet
       exact ⟨_,_,qn,qa,ql,qk,qm,qb,qi,qj,rfl,hgU,hg9,hneq,hBW,hMN,hBN,hQN⟩
      ·have hlt:=hMk.1.lt
       have hg9:W2.heap.size ≤ wK.heap.size:=hS.2.2.size
       obtain ⟨wA,hwA⟩:∃ wA,(wK.alloc (.cells #[.slice none 0 0,.bool false,.slice none 0 0,.bool false,.slice none 0 0] 99)) = wA:=⟨_,rfl⟩
       have b9:Blk wA wK.heap.size 99 #[.slice none 0 0,.bool false,.slice none 0 0,.bool false,.slice none 0 0]:=by rw [← hwA]; exact Blk.new wK _ _
       have hb1:Below wK.heap.size wK wA:=by rw [← hwA]; exact (Below.refl wK.heap.size wK).alloc (Nat.le_refl _) _
       have HWA:=hide hwA
       clear hwA
       go_simp
       try (rw [HWA.out])
       refine hK.out _ _ (kp2 hS hb1) (fun hS=>?_)
       clear hK K HWA
       replace hMk:=hMk.below hb1
       clear hb1
       try simp only [Act.put,sB,sC,sD]
       refine wpAnyH_ready (rs:=[4]) (by kernel_rfl) (by simp) ?_
       refine AllReadyH.cons (o:=⟨some 31,.call { callee:=.value (.func 49),args:=#[.tmp 30],argTypes:=#[38] },71,"lia.go:100",#[eD 3],none⟩) rfl (fun K hK=>?_) AllReadyH.nil
       go_simp
       (go_at_call 49; (with_reducible refine (FOf2_any _ (hm2.below hS.2.2 (Nat.le_refl _)) smj).mono ?_); rintro e wC ⟨rC,rfl,hC,hb1⟩)
       obtain ⟨qn,qa,ql,qk,qm,qb,qi,qj,rfl,-,-⟩:=FracV.parts hC
       go_wp2_with fail
       refine hK.out _ _ (kp2 hS hb1) (fun hS=>?_)
       clear hK K
       replace hMk:=hMk.below hb1
       replace b9:=b9.below hb1 b9.lt
       clear hb1
       try simp only [Act.put,sB,sC,sD]
       refine tkH 5 ⟨some 32,.build 99 #[(0,.tmp 28),(1,.tmp 31)],99,"lia.go:100",#[eD 1,eD 4],none⟩ hS ?_
       try simp only [Act.put,sB,sC,sD]
       refine wpAnyH_ready (rs:=[7]) (by kernel_rfl) (by simp) ?_
       refine AllReadyH.cons (o:=⟨none,.store 99 (.tmp 8) (.tmp 32),0,"lia.go:100",#[eD 6,eD 5,eC 4,eP 0,eP 1,eP 2,eP 3,eP 4,eP 5,eP 6],none⟩) rfl (fun K hK=>?_) AllReadyH.nil
       have hneq:W2.heap.size ≠ wK.heap.size:=(Nat.ne_of_lt hlt)
       have hCB:CB wC wK.heap.size 99 5:=⟨_,b9,rfl,fun u hu=>row_calm none 0 0 false none 0 0 false none 0 0 u (by simpa using hu)⟩
       have hvc:=row_calm (some ⟨W2.heap.size,0,none⟩) n n qn qa ql qk qm qb qi qj
       obtain ⟨WN,hWN⟩:∃ WN,putL wK.heap.size wC 0 [.slice (some ⟨W2.heap.size,0,none⟩) n n,.bool qn,.slice qa ql qk,.bool qm,.slice qb qi qj] = WN:=⟨_,rfl⟩
       have hMN:Hid (MadeB WN W2.heap.size 71 zeroF n):=hide (by rw [← hWN]; exact hMk.putL_far hneq)
       have hQN:Hid (FracV WN (.agg #[.bool qn,.slice qa ql qk,.bool qm,.slice qb qi qj]) ((S.most j:Int):Rat)):=hide (by rw [← hWN]; exact hC.putL hCB hvc)
       have hBN:Blk WN wK.heap.size 99 #[.slice (some ⟨W2.heap.size,0,none⟩) n n,.bool qn,.slice qa ql qk,.bool qm,.slice qb qi qj]:=by rw [← hWN]; exact ((((b9.set_ 0 _).set_ 1 _).set_ 2 _).set_ 3 _).set_ 4 _
       have hBW:Below W2.heap.size W2 WN:=by rw [← hWN]; exact below_putL hS.2.2 hg9
       have k1:WN.cell? ⟨g7,1,none⟩ = some (.bool mn):=by rw [← hWN]; exact (cell_putL (.inl (show g7 ≠ wK.heap.size from fun e=>by have:=b7.lt; omega))).trans hS.1
       have k2:WN.cell? ⟨g7,2,none⟩ = some (.slice ma ml mk):=by rw [← hWN]; exact (cell_putL (.inl (show g7 ≠ wK.heap.size from fun e=>by have:=b7.lt; omega))).trans hS.2.1
       have z0:wC.cell? ⟨wK.heap.size,0,none⟩ = some (.slice none 0 0):=b9.cell 0
       have z1:wC.cell? ⟨wK.heap.size,1,none⟩ = some (.bool false):=b9.cell 1
       have z2:wC.cell? ⟨wK.heap.size,2,none⟩ = some (.slice none 0 0):=b9.cell 2
       have z3:wC.cell? ⟨wK.heap.size,3,none⟩ = some (.bool false):=b9.cell 3
       have z4:wC.cell? ⟨wK.heap.size,4,none⟩ = some (.slice none 0 0):=b9.cell 4
       have f0:=b9.frozen 0
       have f1:=b9.frozen 1
       have f2:=b9.frozen 2
       have f3:=b9.frozen 3
       have f4:=b9.frozen 4
       simp only [putL] at hWN
       have HWN:=hide hWN
       clear hWN
       go_simp
       refine hK.out _ _ (by rw [HWN.out]; exact ⟨k1,k2,hBW⟩) (fun hS=>?_)
       clear hK K hS
       try simp only [Act.put,sB,sC,sD]
       refine wpAnyH_done (by kernel_rfl) ?_ _
       rw [HWN.out]
       clear HWN z0 z1 z2 z3 z4 f0 f1 f2 f3 f4 k1 k2
       go_wp2_with fail
       go_meet
       exact ⟨_,_,qn,qa,ql,qk,qm,qb,qi,qj,rfl,hgU,hg9,hneq,hBW,hMN,hBN,hQN⟩
     ·go_simp
      (go_at_call 49; (with_reducible refine (FOf2_any _ (hm2.below hS.2.2 (Nat.le_refl _)) smj).mono ?_); rintro e wC ⟨rC,rfl,hC,hb1⟩)
      obtain ⟨qn,qa,ql,qk,qm,qb,qi,qj,rfl,-,-⟩:=FracV.parts hC
      go_wp2_with fail
      refine hK.out _ _ (kp2 hS hb1) (fun hS=>?_)
      clear hK K
      clear hb1
      try simp only [Act.put,sB,sC,sD]
      refine wpAnyH_ready (rs:=[1,6]) (by kernel_rfl) (by simp) ?_
      refine AllReadyH.cons (o:=⟨some 28,.makeSlice 61 (.tmp 27) (.tmp 27),61,"lia.go:100",#[eD 0,eD 0],none⟩) rfl (fun K hK=>?_) (AllReadyH.cons (o:=⟨some 8,.alloc 99,0,"lia.go:100",#[],none⟩) rfl (fun K hK=>?_) AllReadyH.nil)
      ·have hgU:W2.heap.size ≤ wC.heap.size:=hS.2.2.size
       refine step_make_b (n:=n) (z:=zeroF) rfl (.tmp 27) (.tmp 27) rfl Try.underlying61 infoF rfl (by decide) (by decide) zeroF_calm (by rfl) (by rfl) (by omega) ?_
       intro wK hMk hb1
       replace hMk:MadeB wK wC.heap.size 71 zeroF n:=hMk
       refine hK.out _ _ (kp2 hS hb1) (fun hS=>?_)
       clear hK K
       replace hC:=hC.below hb1 (Nat.le_refl _)
       clear hb1
       try simp only [Act.put,sB,sC,sD]
       refine tkH 5 ⟨some 32,.build 99 #[(0,.tmp 28),(1,.tmp 31)],99,"lia.go:100",#[eD 1,eD 4],none⟩ hS ?_
       try simp only [Act.put,sB,sC,sD]
       refine wpAnyH_ready (rs:=[6]) (by kernel_rfl) (by simp) ?_
       refine AllReadyH.cons (o:=⟨some 8,.alloc 99,0,"lia.go:100",#[],none⟩) rfl (fun K hK=>?_) AllReadyH.nil
       have hlt:=hMk.1.lt
       have hg9:W2.heap.size ≤ wK.heap.size:=hS.2.2.size
       obtain ⟨wA,hwA⟩:∃ wA,(wK.alloc (.cells #[.slice none 0 0,.bool false,.slice none 0 0,.bool false,.slice none 0 0] 99)) = wA:=⟨_,rfl⟩
       have b9:Blk wA wK.heap.size 99 #[.slice none 0 0,.bool false,.slice none 0 0,.bool false,.slice none 0 0]:=by rw [← hwA]; exact Blk.new wK _ _
       have hb1:Below wK.heap.size wK wA:=by rw [← hwA]; exact (Below.refl wK.heap.size wK).alloc (Nat.le_refl _) _
       have HWA:=hide hwA
       clear hwA
       go_simp
       try (rw [HWA.out])
       refine hK.out _ _ (kp2 hS hb1) (fun hS=>?_)
       clear hK K HWA
       replace hC:=hC.below hb1 (Nat.le_refl _)
       replace hMk:=hMk.below hb1
       clear hb1
       try simp only [Act.put,sB,sC,sD]
       refine wpAnyH_ready (rs:=[7]) (by kernel_rfl) (by simp) ?_
       refine AllReadyH.cons (o:=⟨none,.store 99 (.tmp 8) (.tmp 32),0,"lia.go:100",#[eD 6,eD 5,eC 4,eP 0,eP 1,eP 2,eP 3,eP 4,eP 5,eP 6],none⟩) rfl (fun K hK=>?_) AllReadyH.nil
       have hneq:wC.heap.size ≠ wK.heap.size:=(Nat.ne_of_lt hlt)
       have hCB:CB wA wK.heap.size 99 5:=⟨_,b9,rfl,fun u hu=>row_calm none 0 0 false none 0 0 false none 0 0 u (by simpa using hu)⟩
       have hvc:=row_calm (some ⟨wC.heap.size,0,none⟩) n n qn qa ql qk qm qb qi qj
       obtain ⟨WN,hWN⟩:∃ WN,putL wK.heap.size wA 0 [.slice (some ⟨wC.heap.size,0,none⟩) n n,.bool qn,.slice qa ql qk,.bool qm,.slice qb qi qj] = WN:=⟨_,rfl⟩
       have hMN:Hid (MadeB WN wC.heap.size 71 zeroF n):=hide (by rw [← hWN]; exact hMk.putL_far hneq)
       have hQN:Hid (FracV WN (.agg #[.bool qn,.slice qa ql qk,.bool qm,.slice qb qi qj]) ((S.most j:Int):Rat)):=hide (by rw [← hWN]; exact hC.putL hCB hvc)
       have hBN:Blk WN wK.heap.size 99 #[.slice (some ⟨wC.heap.size,0,none⟩) n n,.bool qn,.slice qa ql qk,.bool qm,.slice qb qi qj]:=by rw [← hWN]; exact ((((b9.set_ 0 _).set_ 1 _).set_ 2 _).set_ 3 _).set_ 4 _
       have hBW:Below W2.heap.size W2 WN:=by rw [← hWN]; exact below_putL hS.2.2 hg9
       have k1:WN.cell? ⟨g7,1,none⟩ = some (.bool mn):=by rw [← hWN]; exact (cell_putL (.inl (show g7 ≠ wK.heap.size from fun e=>by have:=b7.lt; omega))).trans hS.1
       have k2:WN.cell? ⟨g7,2,none⟩ = some (.slice ma ml mk):=by rw [← hWN]; exact (cell_putL (.inl (show g7 ≠ wK.heap.size from fun e=>by have:=b7.lt; omega))).trans hS.2.1
       have z0:wA.cell? ⟨wK.heap.size,0,none⟩ = some (.slice none 0 0):=b9.cell 0
       have z1:wA.cell? ⟨wK.heap.size,1,none⟩ = some (.bool false):=b9.cell 1
       have z2:wA.cell? ⟨wK.heap.size,2,none⟩ = some (.slice none 0 0):=b9.cell 2
       have z3:wA.cell? ⟨wK.heap.size,3,none⟩ = some (.bool false):=b9.cell 3
       have z4:wA.cell? ⟨wK.heap.size,4,none⟩ = some (.slice none 0 0):=b9.cell 4
       have f0:=b9.frozen 0
       have f1:=b9.frozen 1
       have f2:=b9.frozen 2
       have f3:=b9.frozen 3
       have f4:=b9.frozen 4
       simp only [putL] at hWN
       have HWN:=hide hWN
       clear hWN
       go_simp
       refine hK.out _ _ (by rw [HWN.out]; exact ⟨k1,k2,hBW⟩) (fun hS=>?_)
       clear hK K hS
       try simp only [Act.put,sB,sC,sD]
       refine wpAnyH_done (by kernel_rfl) ?_ _
       rw [HWN.out]
       clear HWN z0 z1 z2 z3 z4 f0 f1 f2 f3 f4 k1 k2
       go_wp2_with fail
       go_meet
       exact ⟨_,_,qn,qa,ql,qk,qm,qb,qi,qj,rfl,hgU,hg9,hneq,hBW,hMN,hBN,hQN⟩
      ·have hg9:W2.heap.size ≤ wC.heap.size:=hS.2.2.size
       obtain ⟨wA,hwA⟩:∃ wA,(wC.alloc (.cells #[.slice none 0 0,.bool false,.slice none 0 0,.bool false,.slice none 0 0] 99)) = wA:=⟨_,rfl⟩
       have b9:Blk wA wC.heap.size 99 #[.slice none 0 0,.bool false,.slice none 0 0,.bool false,.slice none 0 0]:=by rw [← hwA]; exact Blk.new wC _ _
       have hb1:Below wC.heap.size wC wA:=by rw [← hwA]; exact (Below.refl wC.heap.size wC).alloc (Nat.le_refl _) _
       have HWA:=hide hwA
       clear hwA
       go_simp
       try (rw [HWA.out])
       refine hK.out _ _ (kp2 hS hb1) (fun hS=>?_)
       clear hK K HWA
       replace hC:=hC.below hb1 (Nat.le_refl _)
       clear hb1
       try simp only [Act.put,sB,sC,sD]
       refine wpAnyH_ready (rs:=[1]) (by kernel_rfl) (by simp) ?_
       refine AllReadyH.cons (o:=⟨some 28,.makeSlice 61 (.tmp 27) (.tmp 27),61,"lia.go:100",#[eD 0,eD 0],none⟩) rfl (fun K hK=>?_) AllReadyH.nil
       have hlt:=b9.lt
       have hgU:W2.heap.size ≤ wA.heap.size:=hS.2.2.size
       refine step_make_b (n:=n) (z:=zeroF) rfl (.tmp 27) (.tmp 27) rfl Try.underlying61 infoF rfl (by decide) (by decide) zeroF_calm (by rfl) (by rfl) (by omega) ?_
       intro wK hMk hb1
       replace hMk:MadeB wK wA.heap.size 71 zeroF n:=hMk
       refine hK.out _ _ (kp2 hS hb1) (fun hS=>?_)
       clear hK K
       replace hC:=hC.below hb1 (Nat.le_refl _)
       replace b9:=b9.below hb1 b9.lt
       clear hb1
       try simp only [Act.put,sB,sC,sD]
       refine tkH 5 ⟨some 32,.build 99 #[(0,.tmp 28),(1,.tmp 31)],99,"lia.go:100",#[eD 1,eD 4],none⟩ hS ?_
       try simp only [Act.put,sB,sC,sD]
       refine wpAnyH_ready (rs:=[7]) (by kernel_rfl) (by simp) ?_
       refine AllReadyH.cons (o:=⟨none,.store 99 (.tmp 8) (.tmp 32),0,"lia.go:100",#[eD 6,eD 5,eC 4,eP 0,eP 1,eP 2,eP 3,eP 4,eP 5,eP 6],none⟩) rfl (fun K hK=>?_) AllReadyH.nil
       have hneq:wA.heap.size ≠ wC.heap.size:=(Nat.ne_of_gt hlt)
       have hCB:CB wK wC.heap.size 99 5:=⟨_,b9,rfl,fun u hu=>row_calm none 0 0 false none 0 0 false none 0 0 u (by simpa using hu)⟩
       have hvc:=row_calm (some ⟨wA.heap.size,0,none⟩) n n qn qa ql qk qm qb qi qj
       obtain ⟨WN,hWN⟩:∃ WN,putL wC.heap.size wK 0 [.slice (some ⟨wA.heap.size,0,none⟩) n n,.bool qn,.slice qa ql qk,.bool qm,.slice qb qi qj] = WN:=⟨_,rfl⟩
       have hMN:Hid (MadeB WN wA.heap.size 71 zeroF n):=hide (by rw [← hWN]; exact hMk.putL_far hneq)
       have hQN:Hid (FracV WN (.agg #[.bool qn,.slice qa ql qk,.bool qm,.slice qb qi qj]) ((S.most j:Int):Rat)):=hide (by rw [← hWN]; exact hC.putL hCB hvc)
       have hBN:Blk WN wC.heap.size 99 #[.slice (some ⟨wA.heap.size,0,none⟩) n n,.bool qn,.slice qa ql qk,.bool qm,.slice qb qi qj]:=by rw [← hWN]; exact ((((b9.set_ 0 _).set_ 1 _).set_ 2 _).set_ 3 _).set_ 4 _
       have hBW:Below W2.heap.size W2 WN:=by rw [← hWN]; exact below_putL hS.2.2 hg9
       have k1:WN.cell? ⟨g7,1,none⟩ = some (.bool mn):=by rw [← hWN]; exact (cell_putL (.inl (show g7 ≠ wC.heap.size from fun e=>by have:=b7.lt; omega))).trans hS.1
       have k2:WN.cell? ⟨g7,2,none⟩ = some (.slice ma ml mk):=by rw [← hWN]; exact (cell_putL (.inl (show g7 ≠ wC.heap.size from fun e=>by have:=b7.lt; omega))).trans hS.2.1
       have z0:wK.cell? ⟨wC.heap.size,0,none⟩ = some (.slice none 0 0):=b9.cell 0
       have z1:wK.cell? ⟨wC.heap.size,1,none⟩ = some (.bool false):=b9.cell 1
       have z2:wK.cell? ⟨wC.heap.size,2,none⟩ = some (.slice none 0 0):=b9.cell 2
       have z3:wK.cell? ⟨wC.heap.size,3,none⟩ = some (.bool false):=b9.cell 3
       have z4:wK.cell? ⟨wC.heap.size,4,none⟩ = some (.slice none 0 0):=b9.cell 4
       have f0:=b9.frozen 0
       have f1:=b9.frozen 1
       have f2:=b9.frozen 2
       have f3:=b9.frozen 3
       have f4:=b9.frozen 4
       simp only [putL] at hWN
       have HWN:=hide hWN
       clear hWN
       go_simp
       refine hK.out _ _ (by rw [HWN.out]; exact ⟨k1,k2,hBW⟩) (fun hS=>?_)
       clear hK K hS
       try simp only [Act.put,sB,sC,sD]
       refine wpAnyH_done (by kernel_rfl) ?_ _
       rw [HWN.out]
       clear HWN z0 z1 z2 z3 z4 f0 f1 f2 f3 f4 k1 k2
       go_wp2_with fail
       go_meet
       exact ⟨_,_,qn,qa,ql,qk,qm,qb,qi,qj,rfl,hgU,hg9,hneq,hBW,hMN,hBN,hQN⟩
     ·have hg9:W2.heap.size ≤ W2.heap.size:=hS.2.2.size
      obtain ⟨wA,hwA⟩:∃ wA,(W2.alloc (.cells #[.slice none 0 0,.bool false,.slice none 0 0,.bool false,.slice none 0 0] 99)).drew = wA:=⟨_,rfl⟩
      have b9:Blk wA W2.heap.size 99 #[.slice none 0 0,.bool false,.slice none 0 0,.bool false,.slice none 0 0]:=by rw [← hwA]; exact Blk.new W2.drew _ _
      have hb1:Below W2.drew.heap.size W2.drew wA:=by rw [← hwA]; exact (Below.refl W2.drew.heap.size W2.drew).alloc (Nat.le_refl _) _
      have HWA:=hide hwA
      clear hwA
      go_simp
      try (rw [HWA.out])
      refine hK.out _ _ (kp2 hS hb1) (fun hS=>?_)
      clear hK K HWA
      clear hb1
      try simp only [Act.put,sB,sC,sD]
      refine wpAnyH_ready (rs:=[1,4]) (by kernel_rfl) (by simp) ?_
      refine AllReadyH.cons (o:=⟨some 28,.makeSlice 61 (.tmp 27) (.tmp 27),61,"lia.go:100",#[eD 0,eD 0],none⟩) rfl (fun K hK=>?_) (AllReadyH.cons (o:=⟨some 31,.call { callee:=.value (.func 49),args:=#[.tmp 30],argTypes:=#[38] },71,"lia.go:100",#[eD 3],none⟩) rfl (fun K hK=>?_) AllReadyH.nil)
      ·have hlt:=b9.lt
       have hgU:W2.heap.size ≤ wA.heap.size:=hS.2.2.size
       refine step_make_b (n:=n) (z:=zeroF) rfl (.tmp 27) (.tmp 27) rfl Try.underlying61 infoF rfl (by decide) (by decide) zeroF_calm (by rfl) (by rfl) (by omega) ?_
       intro wK hMk hb1
       replace hMk:MadeB wK wA.heap.size 71 zeroF n:=hMk
       refine hK.out _ _ (kp2 hS hb1) (fun hS=>?_)
       clear hK K
       replace b9:=b9.below hb1 b9.lt
       clear hb1
       try simp only [Act.put,sB,sC,sD]
       refine wpAnyH_ready (rs:=[4]) (by kernel_rfl) (by simp) ?_
       refine AllReadyH.cons (o:=⟨some 31,.call { callee:=.value (.func 49),args:=#[.tmp 30],argTypes:=#[38] },71,"lia.go:100",#[eD 3],none⟩) rfl (fun K hK=>?_) AllReadyH.nil
       go_simp
       (go_at_call 49; (with_reducible refine (FOf2_any _ (hm2.below hS.2.2 (Nat.le_refl _)) smj).mono ?_); rintro e wC ⟨rC,rfl,hC,hb1⟩)
       obtain ⟨qn,qa,ql,qk,qm,qb,qi,qj,rfl,-,-⟩:=FracV.parts hC
       go_wp2_with fail
       refine hK.out _ _ (kp2 hS hb1) (fun hS=>?_)
       clear hK K
       replace b9:=b9.below hb1 b9.lt
       replace hMk:=hMk.below hb1
       clear hb1
       try simp only [Act.put,sB,sC,sD]
       refine tkH 5 ⟨some 32,.build 99 #[(0,.tmp 28),(1,.tmp 31)],99,"lia.go:100",#[eD 1,eD 4],none⟩ hS ?_
       try simp only [Act.put,sB,sC,sD]
       refine wpAnyH_ready (rs:=[7]) (by kernel_rfl) (by simp) ?_
       refine AllReadyH.cons (o:=⟨none,.store 99 (.tmp 8) (.tmp 32),0,"lia.go:100",#[eD 6,eD 5,eC 4,eP 0,eP 1,eP 2,eP 3,eP 4,eP 5,eP 6],none⟩) rfl (fun K hK=>?_) AllReadyH.nil
       have hneq:wA.heap.size ≠ W2.heap.size:=(Nat.ne_of_gt hlt)
       have hCB:CB wC W2.heap.size 99 5:=⟨_,b9,rfl,fun u hu=>row_calm none 0 0 false none 0 0 false none 0 0 u (by simpa using hu)⟩
       have hvc:=row_calm (some ⟨wA.heap.size,0,none⟩) n n qn qa ql qk qm qb qi qj
       obtain ⟨WN,hWN⟩:∃ WN,putL W2.heap.size wC 0 [.slice (some ⟨wA.heap.size,0,none⟩) n n,.bool qn,.slice qa ql qk,.bool qm,.slice qb qi qj] = WN:=⟨_,rfl⟩
       have hMN:Hid (MadeB WN wA.heap.size 71 zeroF n):=hide (by rw [← hWN]; exact hMk.putL_far hneq)
       have hQN:Hid (FracV WN (.agg #[.bool qn,.slice qa ql qk,.bool qm,.slice qb qi qj]) ((S.most j:Int):Rat)):=hide (by rw [← hWN]; exact hC.putL hCB hvc)
       have hBN:Blk WN W2.heap.size 99 #[.slice (some ⟨wA.heap.size,0,none⟩) n n,.bool qn,.slice qa ql qk,.bool qm,.slice qb qi qj]:=by rw [← hWN]; exact ((((b9.set_ 0 _).set_ 1 _).set_ 2 _).set_ 3 _).set_ 4 _
       have hBW:Below W2.heap.size W2 WN:=by rw [← hWN]; exact below_putL hS.2.2 hg9
       have k1:WN.cell? ⟨g7,1,none⟩ = some (.bool mn):=by rw [← hWN]; exact (cell_putL (.inl (show g7 ≠ W2.heap.size from fun e=>by have:=b7.lt; omega))).trans hS.1
       have k2:WN.cell? ⟨g7,2,none⟩ = some (.slice ma ml mk):=by rw [← hWN]; exact (cell_putL (.inl (show g7 ≠ W2.heap.size from fun e=>by have:=b7.lt; omega))).trans hS.2.1
       have z0:wC.cell? ⟨W2.heap.size,0,none⟩ = some (.slice none 0 0):=b9.cell 0
       have z1:wC.cell? ⟨W2.heap.size,1,none⟩ = some (.bool false):=b9.cell 1
       have z2:wC.cell? ⟨W2.heap.size,2,none⟩ = some (.slice none 0 0):=b9.cell 2
       have z3:wC.cell? ⟨W2.heap.size,3,none⟩ = some (.bool false):=b9.cell 3
       have z4:wC.cell? ⟨W2.heap.size,4,none⟩ = some (.slice none 0 0):=b9.cell 4
       have f0:=b9.frozen 0
       have f1:=b9.frozen 1
       have f2:=b9.frozen 2
       have f3:=b9.frozen 3
       have f4:=b9.frozen 4
       simp only [putL] at hWN
       have HWN:=hide hWN
       clear hWN
       go_simp
       refine hK.out _ _ (by rw [HWN.out]; exact ⟨k1,k2,hBW⟩) (fun hS=>?_)
       clear hK K hS
       try simp only [Act.put,sB,sC,sD]
       refine wpAnyH_done (by kernel_rfl) ?_ _
       rw [HWN.out]
       clear HWN z0 z1 z2 z3 z4 f0 f1 f2 f3 f4 k1 k2
       go_wp2_with fail
       go_meet
       exact ⟨_,_,qn,qa,ql,qk,qm,qb,qi,qj,rfl,hgU,hg9,hneq,hBW,hMN,hBN,hQN⟩
      ·go_simp
       (go_at_call 49; (with_reducible refine (FOf2_any _ (hm2.below hS.2.2 (Nat.le_refl _)) smj).mono ?_); rintro e wC ⟨rC,rfl,hC,hb1⟩)
       obtain ⟨qn,qa,ql,qk,qm,qb,qi,qj,rfl,-,-⟩:=FracV.parts hC
       go_wp2_with fail
       refine hK.out _ _ (kp2 hS hb1) (fun hS=>?_)
       clear hK K
       replace b9:=b9.below hb1 b9.lt
       clear hb1
       try simp only [Act.put,sB,sC,sD]
       refine wpAnyH_ready (rs:=[1]) (by kernel_rfl) (by simp) ?_
       refine AllReadyH.cons (o:=⟨some 28,.makeSlice 61 (.tmp 27) (.tmp 27),61,"lia.go:100",#[eD 0,eD 0],none⟩) rfl (fun K hK=>?_) AllReadyH.nil
       have hlt:=b9.lt
       have hgU:W2.heap.size ≤ wC.heap.size:=hS.2.2.size
       refine step_make_b (n:=n) (z:=zeroF) rfl (.tmp 27) (.tmp 27) rfl Try.underlying61 infoF rfl (by decide) (by decide) zeroF_calm (by rfl) (by rfl) (by omega) ?_
       intro wK hMk hb1
       replace hMk:MadeB wK wC.heap.size 71 zeroF n:=hMk
       refine hK.out _ _ (kp2 hS hb1) (fun hS=>?_)
       clear hK K
       replace b9:=b9.below hb1 b9.lt
       replace hC:=hC.below hb1 (Nat.le_refl _)
       clear hb1
       try simp only [Act.put,sB,sC,sD]
       refine tkH 5 ⟨some 32,.build 99 #[(0,.tmp 28),(1,.tmp 31)],99,"lia.go:100",#[eD 1,eD 4],none⟩ hS ?_
       try simp only [Act.put,sB,sC,sD]
       refine wpAnyH_ready (rs:=[7]) (by kernel_rfl) (by simp) ?_
       refine AllReadyH.cons (o:=⟨none,.store 99 (.tmp 8) (.tmp 32),0,"lia.go:100",#[eD 6,eD 5,eC 4,eP 0,eP 1,eP 2,eP 3,eP 4,eP 5,eP 6],none⟩) rfl (fun K hK=>?_) AllReadyH.nil
       have hneq:wC.heap.size ≠ W2.heap.size:=(Nat.ne_of_gt hlt)
       have hCB:CB wK W2.heap.size 99 5:=⟨_,b9,rfl,fun u hu=>row_calm none 0 0 false none 0 0 false none 0 0 u (by simpa using hu)⟩
       have hvc:=row_calm (some ⟨wC.heap.size,0,none⟩) n n qn qa ql qk qm qb qi qj
       obtain ⟨WN,hWN⟩:∃ WN,putL W2.heap.size wK 0 [.slice (some ⟨wC.heap.size,0,none⟩) n n,.bool qn,.slice qa ql qk,.bool qm,.slice qb qi qj] = WN:=⟨_,rfl⟩
       have hMN:Hid (MadeB WN wC.heap.size 71 zeroF n):=hide (by rw [← hWN]; exact hMk.putL_far hneq)
       have hQN:Hid (FracV WN (.agg #[.bool qn,.slice qa ql qk,.bool qm,.slice qb qi qj]) ((S.most j:Int):Rat)):=hide (by rw [← hWN]; exact hC.putL hCB hvc)
       have hBN:Blk WN W2.heap.size 99 #[.slice (some ⟨wC.heap.size,0,none⟩) n n,.bool qn,.slice qa ql qk,.bool qm,.slice qb qi qj]:=by rw [← hWN]; exact ((((b9.set_ 0 _).set_ 1 _).set_ 2 _).set_ 3 _).set_ 4 _
       have hBW:Below W2.heap.size W2 WN:=by rw [← hWN]; exact below_putL hS.2.2 hg9
       have k1:WN.cell? ⟨g7,1,none⟩ = some (.bool mn):=by rw [← hWN]; exact (cell_putL (.inl (show g7 ≠ W2.heap.size from fun e=>by have:=b7.lt; omega))).trans hS.1
       have k2:WN.cell? ⟨g7,2,none⟩ = some (.slice ma ml mk):=by rw [← hWN]; exact (cell_putL (.inl (show g7 ≠ W2.heap.size from fun e=>by have:=b7.lt; omega))).trans hS.2.1
       have z0:wK.cell? ⟨W2.heap.size,0,none⟩ = some (.slice none 0 0):=b9.cell 0
       have z1:wK.cell? ⟨W2.heap.size,1,none⟩ = some (.bool false):=b9.cell 1
       have z2:wK.cell? ⟨W2.heap.size,2,none⟩ = some (.slice none 0 0):=b9.cell 2
       have z3:wK.cell? ⟨W2.heap.size,3,none⟩ = some (.bool false):=b9.cell 3
       have z4:wK.cell? ⟨W2.heap.size,4,none⟩ = some (.slice none 0 0):=b9.cell 4
       have f0:=b9.frozen 0
       have f1:=b9.frozen 1
       have f2:=b9.frozen 2
       have f3:=b9.frozen 3
       have f4:=b9.frozen 4
       simp only [putL] at hWN
       have HWN:=hide hWN
       clear hWN
       go_simp
       refine hK.out _ _ (by rw [HWN.out]; exact ⟨k1,k2,hBW⟩) (fun hS=>?_)
       clear hK K hS
       try simp only [Act.put,sB,sC,sD]
       refine wpAnyH_done (by kernel_rfl) ?_ _
       rw [HWN.out]
       clear HWN z0 z1 z2 z3 z4 f0 f1 f2 f3 f4 k1 k2
       go_wp2_with fail
       go_meet
       exact ⟨_,_,qn,qa,ql,qk,qm,qb,qi,qj,rfl,hgU,hg9,hneq,hBW,hMN,hBN,hQN⟩
    case rest=>
     obtain ⟨gU,g8,qn,qa,ql,qk,qm,qb,qi,qj,rfl,hgU,hg8,hne,hBw,HMk,b8,HQ⟩:=hcut
     replace x0:=cellB x0 hBw (Nat.le_refl _)
     have HCU:Hid (CB wc gU 71 (n * 4)):=hide HMk.out.1
     have HF0:Hid (∀ c,c < n → FAt wc gU (c * 4) (if c < 0 then ((S.A j c:Int):Rat) else 0)):=hide (fun c hc=>by rw [if_neg (Nat.not_lt_zero _)]; exact HMk.out.frac hc)
     have HB8:=hide b8
     clear HMk b8 x1 x2 hm2
     go_wp2_with fail
     obtain ⟨K0,hK0⟩:∃ K0,K0 = gk:=⟨_,rfl⟩
     subst hK0
     go_loopg [36] n (fun k v36 wr=>∃ c:Nat,c + k = n ∧ v36 = .int .i64 (c:Int) ∧ Below W2.heap.size W2 wr ∧ Hid (CB wr gU 71 (n * 4)) ∧ Hid (∀ i,i < n → FAt wr gU (i * 4) (if i < c then ((S.A j i:Int):Rat) else 0)) ∧ Hid (Blk wr g8 99 #[.slice (some ⟨gU,0,none⟩) n n,.bool qn,.slice qa ql qk,.bool qm,.slice qb qi qj]) ∧ Hid (FracV wr (.agg #[.bool qn,.slice qa ql qk,.bool qm,.slice qb qi qj]) ((S.most j:Int):Rat)))
     case atStart=>exact ⟨0,by omega,rfl,hBw,HCU,HF0,HB8,HQ⟩
     case round=>
      clear HCU HF0 HB8 HQ hBw x0
      obtain ⟨c,hck,rfl,hBi,HCU,HF,HB8,HQ⟩:=hrel
      rcases Nat.eq_zero_or_pos gk with h1 | h1
      ·subst h1
       obtain rfl:c = n:=by omega
       have HFF:Hid (∀ i,i < c → FAt wr gU (i * 4) ((S.A j i:Int):Rat)):=hide (fun i hi=>by have h:=HF.out i hi; rw [if_pos hi] at h; exact h)
       have HBi:Hid (BgB w.heap.size wr c m gp gf gt gn vr):=hide (HB2.out.below hBi)
       obtain ⟨xs,hx1,hx2,hx3⟩:=HC2.out.below hBi
       have HX1:Hid (wr.ownsRow N1 99 5 vr j xs):=hide hx1
       have HX2:=hide hx2
       have HX3:=hide hx3
       have p1:wr.cell? ⟨gp,1,none⟩ = some vr:=HBi.out.blk.cell 1
       obtain ⟨z0,z1,z2,z3,z4⟩:wr.cell? ⟨g8,0,none⟩ = some (.slice (some ⟨gU,0,none⟩) c c) ∧ wr.cell? ⟨g8,1,none⟩ = some (.bool qn) ∧ wr.cell? ⟨g8,2,none⟩ = some (.slice qa ql qk) ∧ wr.cell? ⟨g8,3,none⟩ = some (.bool qm) ∧ wr.cell? ⟨g8,4,none⟩ = some (.slice qb qi qj):=⟨HB8.out.cell 0,HB8.out.cell 1,HB8.out.cell 2,HB8.out.cell 3,HB8.out.cell 4⟩
       obtain ⟨i0,hi0,hz0,hz1,hz2⟩:=info_parts infoRw
       have HZU:=hide zeroRw_calm
       have hBwr:Below w.heap.size w wr:=hB2.trans (hBi.mono hB2.size)
       have hNi:N1 ≤ wr.heap.size:=Nat.le_trans hN2 hBi.size
       clear hx1 hx2 hx3 HF HB8 hck
       go_upto_region 11 with (fail)
       have hT:Below wr.heap.size wr wr.drew:=(Below.refl _ _).drew
       refine wp_region_till (S:=fun w'=>w'.cell? ⟨gp,1,none⟩ = some vr ∧ w'.cell? ⟨g8,0,none⟩ = some (.slice (some ⟨gU,0,none⟩) c c) ∧ w'.cell? ⟨g8,1,none⟩ = some (.bool qn) ∧ w'.cell? ⟨g8,2,none⟩ = some (.slice qa ql qk) ∧ w'.cell? ⟨g8,3,none⟩ = some (.bool qm) ∧ w'.cell? ⟨g8,4,none⟩ = some (.slice qb qi qj) ∧ Below w.heap.size w w') (fun i=>decide (i < 8)) (by kernel_rfl) (⟨p1,z0,z1,z2,z3,z4,hBwr.drew⟩) (fun hS=>?_)
       obtain ⟨WD,hWD⟩:∃ WD,wr.drew = WD:=⟨_,rfl⟩
       rw [hWD] at hS ⊢
       (try rw [hWD] at hT)
       clear hWD
       refine tkT 0 ⟨some 48,.move (.tmp 5),59,"lia.go:104",#[],none⟩ hS ?_
       try simp only [Act.put,sB,sC,sD]
       refine tkT 1 ⟨some 49,.move (.tmp 5),59,"lia.go:104",#[],none⟩ hS ?_
       try simp only [Act.put,sB,sC,sD]
       refine tkT 2 ⟨some 50,.nilCheck (.tmp 49),0,"lia.go:104",#[eD 1],none⟩ hS ?_
       try simp only [Act.put,sB,sC,sD]
       refine tkT 3 ⟨some 51,.fieldAddr 80 (.tmp 50) 1,0,"lia.go:104",#[eD 2],none⟩ hS ?_
       try simp only [Act.put,sB,sC,sD]
       refine tkT 4 ⟨some 52,.load 66 (.tmp 51),66,"lia.go:104",#[eD 3],none⟩ hS ?_
       try simp only [Act.put,sB,sC,sD]
       refine tkT 5 ⟨some 53,.load 99 (.tmp 8),99,"lia.go:104",#[],none⟩ hS ?_
       try simp only [Act.put,sB,sC,sD]
       refine Till_ready (rs:=[6]) (by kernel_rfl) (by kernel_rfl) (by simp) ?_
       refine AllReadyT.cons (o:=⟨some 54,.buildSlice 66 1 #[(0,.tmp 53)],66,"lia.go:104",#[eD 5],none⟩) rfl (fun K hK=>?_) AllReadyT.nil
       obtain ⟨WA,hWA⟩:∃ WA,WD.alloc (.cells #[.slice (some ⟨gU,0,none⟩) c c,.bool qn,.slice qa ql qk,.bool qm,.slice qb qi qj] 99) = WA:=⟨_,rfl⟩
       have hbA:Below WD.heap.size WD WA:=by rw [← hWA]; exact (Below.refl WD.heap.size WD).alloc (Nat.le_refl _) _
       have HNS:Hid (∀ j u,([.slice (some ⟨gU,0,none⟩) c c,.bool qn,.slice qa ql qk,.bool qm,.slice qb qi qj]:List Value)[j]? = some u → WA.cell? ((⟨WD.heap.size,0,none⟩:Addr).add j) = some u):=hide (by rw [← hWA]; exact news_five _ _ _ _ _ _ _)
       have HWA:=hide hWA
       clear hWA
       go_simp
       try (rw [HWA.out])
       replace hT:=hT.trans (hbA.mono hT.size)
       refine hK.out _ _ ⟨cellK hbA hS.1,cellK hbA hS.2.1,cellK hbA hS.2.2.1,cellK hbA hS.2.2.2.1,cellK hbA hS.2.2.2.2.1,cellK hbA hS.2.2.2.2.2.1,hS.2.2.2.2.2.2.trans (hbA.mono hS.2.2.2.2.2.2.size)⟩ (fun hS=>?_)
       clear hK K HWA hbA
       try simp only [Act.put,sB,sC,sD]
       refine Till_ready (rs:=[7]) (by kernel_rfl) (by kernel_rfl) (by simp) ?_
       refine AllReadyT.cons (o:=⟨some 55,.call { callee:=.builtin .append,args:=#[.tmp 52,.tmp 54],argTypes:=#[66,66] },66,"lia.go:104",#[eD 4,eD 6],none⟩) rfl (fun K hK=>?_) AllReadyT.nil
       have hBA:Below wr.heap.size wr WA:=hT
       have HXA:Hid (WA.ownsRow N1 99 5 vr j xs):=hide (own_stays HX1.out (fun g hg=>hBA.block g (HX1.out.lt g hg).2))
       have HXB:Hid (∀ g,vr.ownBlock = some g → Calm WA g):=hide (fun g hg=>(HX2.out g hg).below hBA (HX1.out.lt g hg).2)
       have HXC:Hid (∀ g,vr.ownBlock = some g → RowsX WA g (S.upto j)):=hide (fun g hg=>(HX3.out g hg).below hBA (Nat.le_refl _))
       have HNU:Hid (∀ u ∈ [.slice (some ⟨gU,0,none⟩) c c,.bool qn,.slice qa ql qk,.bool qm,.slice qb qi qj],NoU u):=hide (row_calm _ _ _ _ _ _ _ _ _ _ _)
       have hNA:N1 ≤ WA.heap.size:=Nat.le_trans hNi hBA.size
       have HUA:Hid (∀ i,i < c → FAt WA gU (i * 4) ((S.A j i:Int):Rat)):=hide (fun i hi=>(HFF.out i hi).below hBA (Nat.le_refl _))
       have HQA:Hid (FracV WA (.agg #[.bool qn,.slice qa ql qk,.bool qm,.slice qb qi qj]) ((S.most j:Int):Rat)):=hide (HQ.out.below hBA (Nat.le_refl _))
       have HBA:Hid (BgB w.heap.size WA c m gp gf gt gn vr):=hide (HBi.out.below hBA)
       refine step_append_calm _ rfl (.tmp 52) (.tmp 54) 66 rfl N1 99 i0 (.agg #[.slice none 0 0,.bool false,.slice none 0 0,.bool false,.slice none 0 0]) 5 88 Try.underlying66 hi0 hz0 hz1 hz2 rfl (by decide) vr j xs (by rfl) HXA.out ⟨WD.heap.size,0,none⟩ 1 1 [.slice (some ⟨gU,0,none⟩) c c,.bool qn,.slice qa ql qk,.bool qm,.slice qb qi qj] (by rfl) rfl HNS.out (by simp [Value.oneCell']) (by unfold maxLen; omega) (by omega) hNA HXB.out HNU.out HZU.out ?_
       intro v9 w8 hown hgrow hat hcalm
       obtain ⟨ya,yk,rfl⟩:=own_slice hown
       have hB8:Below w.heap.size w w8:=(hBwr.trans (hBA.mono hBwr.size)).grown hgrow (by have:=hBA.size; have:=hBwr.size; omega) (fun k hk=>Nat.le_trans hN1s (HVL.out k hk).1)
       have hvne:∀ g,vr.ownBlock = some g → g ≠ gp ∧ g ≠ gf ∧ g ≠ gt ∧ g ≠ gn:=fun g e=>by have:=(HVL.out g e).1; have:=HN1.out; omega
       have hvne0:=hvne
       have hgrow0:=hgrow
       have hB80:=hB8
       have hBg8:=HBA.out.grown hgrow hvne
       have hnU:vr.ownBlock ≠ some gU:=fun e=>by have:=(HVL.out gU e).2; omega
       have hR8:RowsC w8 N1 (.slice ya (j + 1) yk) (S.upto (j + 1)):=RowsC.next HXA.out HXB.out HXC.out hjS (by rw [HN.out]; exact hown) hgrow hat hcalm hnU (by rw [HN.out]; exact HUA.out) HQA.out
       obtain ⟨va,vk,hvr⟩:=own_slice HXA.out
       have HVR:=hide hvr
       clear hvr
       obtain ⟨W9,hW9⟩:∃ W9,w8.setCell ⟨gp,1,none⟩ (.slice ya (j + 1) yk) = W9:=⟨_,rfl⟩
       have HB9:Hid (BgB w.heap.size W9 c m gp gf gt gn (.slice ya (j + 1) yk)):=hide (by rw [← hW9]; exact hBg8.set _)
       have hvp:(Value.slice ya (j + 1) yk).ownBlock ≠ some gp:=fun e=>by have h1:=(hR8.lt gp e).1; have:=HN1.out; omega
       have HR9:Hid (RowsC W9 N1 (.slice ya (j + 1) yk) (S.upto (j + 1))):=hide (by rw [← hW9]; have hbb:=hBg8.blk; rw [HVR.out] at hbb; exact hR8.setCell hbb (fun u hu=>(search_calm u hu).2) (fun u hu=>(search_calm u hu).1) hvp)
       have hB9:Below w.heap.size w W9:=by rw [← hW9]; exact hB8.setCell hBg8.le.1 _
       have hN9:N1 ≤ W9.heap.size:=by have e:=hgrow.size; rw [← hW9]; simp [World.setCell]; omega
       have y1:w8.cell? ⟨gp,1,none⟩ = some vr:=hBg8.blk.cell 1
       have g1:=hBg8.blk.frozen 1
       have HW9:=hide hW9
       clear hW9 hBg8 hR8 hvp hvne hnU hB8 hown hgrow hat hcalm HNS HXA HXB HXC HNU HUA HQA HBA HX1 HX2 HX3
       have hkp:∀ u,WA.cell? ⟨gp,1,none⟩ = some u → w8.cell? ⟨gp,1,none⟩ = some u:=fun u hu=>hgrow0.cell hu (fun e=>(hvne0 gp e.symm).1 rfl)
       have hk8:∀ i u,WA.cell? ⟨g8,i,none⟩ = some u → w8.cell? ⟨g8,i,none⟩ = some u:=fun i u hu=>hgrow0.cell hu (fun e=>by have:=(HVL.out g8 e.symm).2; omega)
       refine hK.out _ _ ⟨hkp _ hS.1,hk8 _ _ hS.2.1,hk8 _ _ hS.2.2.1,hk8 _ _ hS.2.2.2.1,hk8 _ _ hS.2.2.2.2.1,hk8 _ _ hS.2.2.2.2.2.1,hB80⟩ (fun hS=>?_)
       clear hK K hkp hk8 hvne0 hgrow0 hB80
       try simp only [Act.put,sB,sC,sD]
       refine Till_turn (by kernel_rfl) ?_
       refine tkH 8 ⟨some 56,.nilCheck (.tmp 48),0,"lia.go:104",#[eD 0,eP 0,eP 1,eP 2,eP 3,eP 4,eP 5,eP 6,eP 7],none⟩ trivial ?_
       try simp only [Act.put,sB,sC,sD]
       refine tkH 9 ⟨some 57,.fieldAddr 80 (.tmp 56) 1,0,"lia.go:104",#[eD 8,eP 0,eP 1,eP 2,eP 3,eP 4,eP 5,eP 6,eP 7],none⟩ trivial ?_
       try simp only [Act.put,sB,sC,sD]
       refine wpAnyH_ready (rs:=[10]) (by kernel_rfl) (by simp) ?_
       refine AllReadyH.cons (o:=⟨none,.store 66 (.tmp 57) (.tmp 55),0,"lia.go:104",#[eD 9,eD 7,eC 7,eP 0,eP 1,eP 2,eP 3,eP 4,eP 5,eP 6,eP 7],none⟩) rfl (fun K hK=>?_) AllReadyH.nil
       go_simp
       refine hK.out _ _ trivial (fun _=>?_)
       clear hK K y1 g1
       try simp only [Act.put,sB,sC,sD]
       refine wpAnyH_done (by kernel_rfl) ?_ _
       rw [HW9.out]
       clear HW9 hS
       go_wp2_with fail
       go_roundg (K0 - 1)
       case measure=>omega
       case rel=>exact ⟨j + 1,_,by omega,by go_num,hB9,hN9,HB9,HR9⟩
      ·have hc:c < n:=by omega
       have ec:(c:Int) < (n:Int):=by omega
       have hcS:c < S.n:=by rw [HN.out]; exact hc
       obtain ⟨rb,ro,rfl,hrow⟩:=HROW.out (by omega)
       obtain ⟨kn,ka,kl,kk,k0,k1,hkz⟩:=(hrow c hcS).below (hB2.trans (hBi.mono hB2.size)) (Nat.le_refl _)
       have sk:=HA.out j c hjS hcS
       clear hrow
       obtain ⟨W3,hW3⟩:∃ W3,wr.alloc (.cells #[.bool kn,.slice ka kl kk] 38) = W3:=⟨_,rfl⟩
       obtain ⟨g10,hg10⟩:∃ g,wr.heap.size = g:=⟨_,rfl⟩
       have b10:Blk W3 g10 38 #[.bool kn,.slice ka kl kk]:=by rw [← hW3,← hg10]; exact Blk.new _ _ _
       have hb3:Below wr.heap.size wr W3:=by rw [← hW3]; exact (Below.refl _ _).alloc (Nat.le_refl _) _
       have hk3:IntV W3 (.agg #[.bool kn,.slice ka kl kk]) (S.A j c):=hkz.below hb3 (Nat.le_refl _)
       have HCU3:Hid (CB W3 gU 71 (n * 4)):=hide (HCU.out.below hb3 HCU.out.lt)
       have HF3:Hid (∀ i,i < n → FAt W3 gU (i * 4) (if i < c then ((S.A j i:Int):Rat) else 0)):=hide (fun i hi=>(HF.out i hi).below hb3 (Nat.le_refl _))
       have HB83:Hid (Blk W3 g8 99 #[.slice (some ⟨gU,0,none⟩) n n,.bool qn,.slice qa ql qk,.bool qm,.slice qb qi qj]):=hide (HB8.out.below hb3 HB8.out.lt)
       have HQ3:Hid (FracV W3 (.agg #[.bool qn,.slice qa ql qk,.bool qm,.slice qb qi qj]) ((S.most j:Int):Rat)):=hide (HQ.out.below hb3 (Nat.le_refl _))
       have hB3:Below W2.heap.size W2 W3:=hBi.trans (hb3.mono hBi.size)
       have HW3:=hide hW3
       have HG10:=hide hg10
       clear hW3 hg10 HCU HF HB8 HQ hBi hb3 hkz
       go_upto_region 9 with (fail)
       rw [HW3.out,HG10.out]
       clear HW3 HG10 k0 k1
       obtain ⟨y0,y1,-⟩:=b10.c2
       have z0:W3.cell? ⟨g8,0,none⟩ = some (.slice (some ⟨gU,0,none⟩) n n):=HB83.out.cell 0
       refine wp_region_till (S:=fun w'=>w'.cell? ⟨g8,0,none⟩ = some (.slice (some ⟨gU,0,none⟩) n n) ∧ w'.cell? ⟨g10,0,none⟩ = some (.bool kn) ∧ w'.cell? ⟨g10,1,none⟩ = some (.slice ka kl kk) ∧ Below W3.heap.size W3 w') (fun i=>decide (i < 5)) (by kernel_rfl) (⟨z0,y0,y1,(Below.refl _ _).drew⟩) (fun hS=>?_)
       refine tkT 0 ⟨some 41,.fieldAddr 99 (.tmp 8) 0,0,"lia.go:102",#[],none⟩ hS ?_
       try simp only [Act.put,sB,sC,sD]
       refine tkT 1 ⟨some 42,.load 61 (.tmp 41),61,"lia.go:102",#[eD 0],none⟩ hS ?_
       try simp only [Act.put,sB,sC,sD]
       refine tkT 2 ⟨some 43,.move (.tmp 9),3,"lia.go:102",#[],none⟩ hS ?_
       try simp only [Act.put,sB,sC,sD]
       refine tkT 3 ⟨some 44,.load 38 (.tmp 10),38,"lia.go:102",#[],none⟩ hS ?_
       try simp only [Act.put,sB,sC,sD]
       refine Till_ready (rs:=[4]) (by kernel_rfl) (by kernel_rfl) (by simp) ?_
       refine AllReadyT.cons (o:=⟨some 45,.call { callee:=.value (.func 49),args:=#[.tmp 44],argTypes:=#[38] },71,"lia.go:102",#[eD 3],none⟩) rfl (fun K hK=>?_) AllReadyT.nil
       go_simp
       (go_at_call 49; (with_reducible refine (FOf2_any _ (hk3.below hS.2.2.2 (Nat.le_refl _)) sk).mono ?_); rintro e wN ⟨rN,rfl,hN,hb1⟩)
       obtain ⟨un,ua,ul,uk,um,ub,ui,uj,rfl,-,-⟩:=FracV.parts hN
       go_wp2_with fail
       refine hK.out _ _ ((kp3 hS hb1)) (fun hS=>?_)
       clear hK K hb1
       try simp only [Act.put,sB,sC,sD]
       refine Till_turn (by kernel_rfl) ?_
       refine tkH 5 ⟨some 46,.indexAddr 61 (.tmp 42) (.tmp 43),0,"lia.go:102",#[eD 1,eD 2,eP 0,eP 1,eP 2,eP 3,eP 4],none⟩ trivial ?_
       try simp only [Act.put,sB,sC,sD]
       refine wpAnyH_ready (rs:=[6]) (by kernel_rfl) (by simp) ?_
       refine AllReadyH.cons (o:=⟨none,.store 71 (.tmp 46) (.tmp 45),0,"lia.go:102",#[eD 5,eD 4,eC 4,eP 0,eP 1,eP 2,eP 3,eP 4],none⟩) rfl (fun K hK=>?_) AllReadyH.nil
       have hBN:=hS.2.2.2
       have hCN:=HCU3.out.below hBN HCU3.out.lt
       have hFc:=(HF3.out c hc).below hBN (Nat.le_refl _)
       obtain ⟨_,_,_,_,_,_,_,_,q0,q1,q2,q3,-⟩:=id hFc
       have f0:=hCN.frozen (c * 4)
       have f1:=hCN.frozen (c * 4 + 1)
       have f2:=hCN.frozen (c * 4 + 2)
       have f3:=hCN.frozen (c * 4 + 3)
       obtain ⟨W5,hW5⟩:∃ W5,put4 wN gU (c * 4) (.bool un) (.slice ua ul uk) (.bool um) (.slice ub ui uj) = W5:=⟨_,rfl⟩
       have HC5:Hid (CB W5 gU 71 (n * 4)):=hide (by rw [← hW5]; exact (((hCN.set1 _ (NoU.bool _)).set1 _ (NoU.slice _ _ _)).set1 _ (NoU.bool _)).set1 _ (NoU.slice _ _ _))
       have HF5:Hid (∀ i,i < n → FAt W5 gU (i * 4) (if i < c + 1 then ((S.A j i:Int):Rat) else 0)):=hide (fun i hi=>by
         rw [← hW5]
         by_cases he:i = c
         ·subst he
          rw [if_pos (by omega)]
          exact FAt.put4_at hN hFc
         ·have h:=FAt.put4 (n:=un) (a:=ua) (l:=ul) (k:=uk) (m:=um) (b:=ub) (i:=ui) (j:=uj) ((HF3.out i hi).below hBN (Nat.le_refl _)) hFc (.inr (by omega))
          by_cases hlt:i < c
          ·rw [if_pos hlt] at h; rw [if_pos (by omega)]; exact h
          ·rw [if_neg hlt] at h; rw [if_neg (by omega)]; exact h)
       have HQ5:Hid (FracV W5 (.agg #[.bool qn,.slice qa ql qk,.bool qm,.slice qb qi qj]) ((S.most j:Int):Rat)):=hide (by rw [← hW5]; exact FracV.put4 (HQ3.out.below hBN (Nat.le_refl _)) hFc)
       have HB5:Hid (Blk W5 g8 99 #[.slice (some ⟨gU,0,none⟩) n n,.bool qn,.slice qa ql qk,.bool qm,.slice qb qi qj]):=hide (by rw [← hW5]; exact ((((HB83.out.below hBN HB83.out.lt).far (fun e=>hne e.symm) _).far (fun e=>hne e.symm) _).far (fun e=>hne e.symm) _).far (fun e=>hne e.symm) _)
       have hB5:Below W2.heap.size W2 W5:=by rw [← hW5]; exact below_put4 (hB3.trans (hBN.mono hB3.size)) hgU _ _ _ _
       simp only [put4] at hW5
       have HW5:=hide hW5
       clear hW5 hCN hFc hBN HB83 HQ3 HF3 HCU3
       go_simp
       refine hK.out _ _ trivial (fun _=>?_)
       clear hK K q0 q1 q2 q3 f0 f1 f2 f3
       try simp only [Act.put,sB,sC,sD]
       refine wpAnyH_done (by kernel_rfl) ?_ _
       rw [HW5.out]
       clear HW5 hS
       go_wp2_with fail
       go_roundg (gk - 1)
       case measure=>omega
       case rel=>exact ⟨c + 1,by omega,by go_num,hB5,HC5,HF5,HB5,HQ5⟩
end Go.Proofs.Ytphjffbldhhdiaa
