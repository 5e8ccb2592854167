/- lia's alone: by its contract. -/
import Derived.Test.YtphjffbldhhdiaaLiSt
namespace Go.Proofs.Ytphjffbldhhdiaa
open Go.RowKit

theorem MadeB.below {w w':World} {g n:Nat} {e:TypeId} {z:Value} (h:MadeB w g e z n) (hb:Below w.heap.size w w'):MadeB w' g e z n:=by
 refine ⟨h.1.below hb h.1.lt,fun i d hi hd=>?_⟩
 rw [← h.2 i d hi hd]
 exact hb.cell (p:=⟨g,_,none⟩) h.1.lt
theorem MadeB.putL_far {w:World} {g g' n o:Nat} {e:TypeId} {z:Value} {vs:List Value} (h:MadeB w g e z n) (hne:g ≠ g'):MadeB (putL g' w o vs) g e z n:=
 ⟨h.1.putL_far hne,fun i d hi hd=>(cell_putL (.inl hne)).trans (h.2 i d hi hd)⟩
theorem MadeB.frac {w:World} {g n c:Nat} (h:MadeB w g 71 zeroF n) (hc:c < n):FAt w g (c * 4) 0:=
 ⟨false,none,0,0,false,none,0,0,h.2 c 0 hc (by decide),h.2 c 1 hc (by decide),h.2 c 2 hc (by decide),h.2 c 3 hc (by decide),FracV.zero w⟩
def UnitR (w:World) (g n c:Nat) (q:Rat):Prop:=∀ i,i < n → FAt w g (i * 4) (if c = i then q else 0)
theorem unit_put {w:World} {g n c:Nat} {q:Rat} {m p:Bool} {a b:Option Addr} {l k i j:Nat} (h:MadeB w g 71 zeroF n) (hc:c < n) (hq:FracV w (.agg #[.bool m,.slice a l k,.bool p,.slice b i j]) q):UnitR (put4 w g (c * 4) (.bool m) (.slice a l k) (.bool p) (.slice b i j)) g n c q:=fun x hx=>by
 by_cases e:c = x
 ·subst e
  rw [if_pos rfl]
  exact FAt.put4_at hq (h.frac hc)
 ·rw [if_neg e]
  exact FAt.put4 (h.frac hx) (h.frac hc) (.inr (by omega))
def AlonePost (w:World) (n v:Nat) (zt zm:Int) (e:Ending) (w':World):Prop:=Below w.heap.size w w' ∧ ∃ (g:Nat) (m:Bool) (a:Option Addr) (l k:Nat) (p:Bool) (b:Option Addr) (i j:Nat),w.heap.size ≤ g ∧ e = .returned (.agg #[.slice (some ⟨g,0,none⟩) n n,.bool m,.slice a l k,.bool p,.slice b i j]) ∧ UnitR w' g n v (zt:Rat) ∧ FracV w' (.agg #[.bool m,.slice a l k,.bool p,.slice b i j]) (zm:Rat)
set_option maxRecDepth 100000 in
set_option maxHeartbeats 6400000 in
theorem alone_any {P n v:Nat} {zt zm:Int} {tn mn:Bool} {ta ma:Option Addr} {tl tk ml mk:Nat} (w:World) (hp:w.cell? ⟨P,0,none⟩ = some (.int .i64 (n:Int))) (ht:IntV w (.agg #[.bool tn,.slice ta tl tk]) zt) (hm:IntV w (.agg #[.bool mn,.slice ma ml mk]) zm) (st:Sm zt) (sm:Sm zm) (hv:v < n) (hn:n ≤ 1000) :
  Calls Try.prog 60 #[.pointer (some ⟨P,0,none⟩),.int .i64 (v:Int),.agg #[.bool tn,.slice ta tl tk],.agg #[.bool mn,.slice ma ml mk]] w (AlonePost w n v zt zm):=by
 generalize hP:AlonePost w n v zt zm = Post
 have HP:=hide hP
 clear hP
 obtain ⟨w1,hw1⟩:∃ w1,w.alloc (.cells #[.bool tn,.slice ta tl tk] 38) = w1:=⟨_,rfl⟩
 obtain ⟨w2,hw2⟩:∃ w2,w1.alloc (.cells #[.bool mn,.slice ma ml mk] 38) = w2:=⟨_,rfl⟩
 obtain ⟨W3,hw3⟩:∃ W3,w2.alloc (.cells #[.slice none 0 0,.bool false,.slice none 0 0,.bool false,.slice none 0 0] 99) = W3:=⟨_,rfl⟩
 obtain ⟨gT,hgT⟩:∃ g,w.heap.size = g:=⟨_,rfl⟩
 obtain ⟨gM,hgM⟩:∃ g,w1.heap.size = g:=⟨_,rfl⟩
 obtain ⟨g8,hg8⟩:∃ g,w2.heap.size = g:=⟨_,rfl⟩
 have s1:Below w.heap.size w w1:=by rw [← hw1]; exact (Below.refl _ _).alloc (Nat.le_refl _) _
 have s2:Below w1.heap.size w1 w2:=by rw [← hw2]; exact (Below.refl _ _).alloc (Nat.le_refl _) _
 have s3:Below w2.heap.size w2 W3:=by rw [← hw3]; exact (Below.refl _ _).alloc (Nat.le_refl _) _
 have bT:Blk W3 gT 38 #[.bool tn,.slice ta tl tk]:=by
  have b:Blk w1 gT 38 #[.bool tn,.slice ta tl tk]:=by rw [← hw1,← hgT]; exact Blk.new _ _ _
  exact (b.below s2 b.lt).below s3 (b.below s2 b.lt).lt
 have bM:Blk W3 gM 38 #[.bool mn,.slice ma ml mk]:=by
  have b:Blk w2 gM 38 #[.bool mn,.slice ma ml mk]:=by rw [← hw2,← hgM]; exact Blk.new _ _ _
  exact b.below s3 b.lt
 have b8:Blk W3 g8 99 #[.slice none 0 0,.bool false,.slice none 0 0,.bool false,.slice none 0 0]:=by rw [← hw3,← hg8]; exact Blk.new _ _ _
 have sb:Below w.heap.size w W3:=(s1.trans (s2.mono s1.size)).trans (s3.mono (Nat.le_trans s1.size s2.size))
 have hp3:=cellB hp sb (Nat.le_refl _)
 have ht3:IntV W3 (.agg #[.bool tn,.slice ta tl tk]) zt:=ht.below sb (Nat.le_refl _)
 have hm3:IntV W3 (.agg #[.bool mn,.slice ma ml mk]) zm:=hm.below sb (Nat.le_refl _)
 have HW1:=hide hw1
 have HW2:=hide hw2
 have HW3:=hide hw3
 have HGT:=hide hgT
 have HGM:Hid (gT + 1 = gM):=hide (by rw [← hgM,← hw1,← hgT]; simp)
 have HG8:Hid (gM + 1 = g8):=hide (by rw [← hg8,← hw2,← hgM]; simp)
 clear hw1 hw2 hw3 hgT hgM hg8 s1 s2 s3 hp ht hm
 go_enter Try.func60,Try.ntmps60
 go_upto_region 1 with (fail)
 rw [HW1.out,HW2.out,HW3.out,HGT.out,HGM.out,HG8.out]
 clear HW1 HW2 HW3
 obtain ⟨m0,m1,-⟩:=bM.c2
 go_cut [9] from 10 to 17 (fun v9 wc=>∃ (gU g9:Nat) (qn:Bool) (qa:Option Addr) (ql qk:Nat) (qm:Bool) (qb:Option Addr) (qi qj:Nat),v9 = .pointer (some ⟨g9,0,none⟩) ∧ W3.heap.size ≤ gU ∧ W3.heap.size ≤ g9 ∧ gU ≠ g9 ∧ Below W3.heap.size W3 wc ∧ Hid (MadeB wc gU 71 zeroF n) ∧ Blk wc g9 99 #[.slice (some ⟨gU,0,none⟩) n n,.bool qn,.slice qa ql qk,.bool qm,.slice qb qi qj] ∧ Hid (FracV wc (.agg #[.bool qn,.slice qa ql qk,.bool qm,.slice qb qi qj]) (zm:Rat)))
 case first=>
  refine wp_region_held_drew (S:=fun w'=>w'.cell? ⟨P,0,none⟩ = some (.int .i64 (n:Int)) ∧ w'.cell? ⟨gM,0,none⟩ = some (.bool mn) ∧ w'.cell? ⟨gM,1,none⟩ = some (.slice ma ml mk) ∧ Below W3.heap.size W3 w') (by kernel_rfl) ⟨hp3,m0,m1,(Below.refl _ _).drew⟩ (fun hS=>?_)
  refine tkH 0 ⟨some 10,.move (.tmp 0),59,"lia.go:125",#[],none⟩ hS ?_
  try simp only [Act.put,sB,sC,sD]
  refine tkH 1 ⟨some 11,.nilCheck (.tmp 10),0,"lia.go:125",#[eD 0],none⟩ hS ?_
  try simp only [Act.put,sB,sC,sD]
  refine tkH 2 ⟨some 12,.fieldAddr 80 (.tmp 11) 0,0,"lia.go:125",#[eD 1],none⟩ hS ?_
  try simp only [Act.put,sB,sC,sD]
  refine tkH 3 ⟨some 13,.load 3 (.tmp 12),3,"lia.go:125",#[eD 2],none⟩ hS ?_
  try simp only [Act.put,sB,sC,sD]
  refine tkH 5 ⟨some 15,.load 38 (.tmp 7),38,"lia.go:125",#[],none⟩ hS ?_
  try simp only [Act.put,sB,sC,sD]
  refine wpAnyH_ready (rs:=[4,6,8]) (by kernel_rfl) (by simp) ?_
  refine AllReadyH.cons (o:=⟨some 14,.makeSlice 61 (.tmp 13) (.tmp 13),61,"lia.go:125",#[eD 3,eD 3],none⟩) rfl (fun K hK=>?_) (AllReadyH.cons (o:=⟨some 16,.call { callee:=.value (.func 49),args:=#[.tmp 15],argTypes:=#[38] },71,"lia.go:125",#[eD 5],none⟩) rfl (fun K hK=>?_) (AllReadyH.cons (o:=⟨some 9,.alloc 99,0,"lia.go:125",#[],none⟩) rfl (fun K hK=>?_) AllReadyH.nil))
  ·have hgU:W3.heap.size ≤ W3.heap.size:=hS.2.2.2.size
   refine step_make_b (n:=n) (z:=zeroF) rfl (.tmp 13) (.tmp 13) rfl Try.underlying61 infoF rfl (by decide) (by decide) zeroF_calm (by rfl) (by rfl) (by omega) ?_
   intro wK hMk hb1
   replace hMk:MadeB wK W3.heap.size 71 zeroF n:=hMk
   refine hK.out _ _ (kp3 hS hb1) (fun hS=>?_)
   clear hK K
   clear hb1
   try simp only [Act.put,sB,sC,sD]
   refine wpAnyH_ready (rs:=[6,8]) (by kernel_rfl) (by simp) ?_
   refine AllReadyH.cons (o:=⟨some 16,.call { callee:=.value (.func 49),args:=#[.tmp 15],argTypes:=#[38] },71,"lia.go:125",#[eD 5],none⟩) rfl (fun K hK=>?_) (AllReadyH.cons (o:=⟨some 9,.alloc 99,0,"lia.go:125",#[],none⟩) rfl (fun K hK=>?_) AllReadyH.nil)
   ·go_simp
    (go_at_call 49; (with_reducible refine (FOf2_any _ (hm3.below hS.2.2.2 (Nat.le_refl _)) sm).mono ?_); rintro e wC ⟨rC,rfl,hC,hb1⟩)
    obtain ⟨qn,qa,ql,qk,qm,qb,qi,qj,rfl,-,-⟩:=FracV.parts hC
    go_wp2_with fail
    refine hK.out _ _ (kp3 hS hb1) (fun hS=>?_)
    clear hK K
    replace hMk:=hMk.below hb1
    clear hb1
    try simp only [Act.put,sB,sC,sD]
    refine tkH 7 ⟨some 17,.build 99 #[(0,.tmp 14),(1,.tmp 16)],99,"lia.go:125",#[eD 4,eD 6],none⟩ hS ?_
    try simp only [Act.put,sB,sC,sD]
    refine wpAnyH_ready (rs:=[8]) (by kernel_rfl) (by simp) ?_
    refine AllReadyH.cons (o:=⟨some 9,.alloc 99,0,"lia.go:125",#[],none⟩) rfl (fun K hK=>?_) AllReadyH.nil
    have hlt:=hMk.1.lt
    have hg9:W3.heap.size ≤ wC.heap.size:=hS.2.2.2.size
    obtain ⟨wA,hwA⟩:∃ wA,(wC.alloc (.cells #[.slice none 0 0,.bool false,.slice none 0 0,.bool false,.slice none 0 0] 99)) = wA:=⟨_,rfl⟩
    have b9:Blk wA wC.heap.size 99 #[.slice none 0 0,.bool false,.slice none 0 0,.bool false,.slice none 0 0]:=by rw [← hwA]; exact Blk.new wC _ _
    have hb1:Below wC.heap.size wC wA:=by rw [← hwA]; exact (Below.refl wC.heap.size wC).alloc (Nat.le_refl _) _
    have HWA:=hide hwA
    clear hwA
    go_simp
    try (rw [HWA.out])
    refine hK.out _ _ (kp3 hS hb1) (fun hS=>?_)
    clear hK K HWA
    replace hMk:=hMk.below hb1
    replace hC:=hC.below hb1 (Nat.le_refl _)
    clear hb1
    try simp only [Act.put,sB,sC,sD]
    refine wpAnyH_ready (rs:=[9]) (by kernel_rfl) (by simp) ?_
    refine AllReadyH.cons (o:=⟨none,.store 99 (.tmp 9) (.tmp 17),0,"lia.go:125",#[eD 8,eD 7,eC 6,eP 0,eP 1,eP 2,eP 3,eP 4,eP 5,eP 6,eP 7,eP 8],none⟩) rfl (fun K hK=>?_) AllReadyH.nil
    have hneq:W3.heap.size ≠ wC.heap.size:=(Nat.ne_of_lt hlt)
    have hCB:CB wA wC.heap.size 99 5:=⟨_,b9,rfl,fun u hu=>row_calm none 0 0 false none 0 0 false none 0 0 u (by simpa using hu)⟩
    have hvc:=row_calm (some ⟨W3.heap.size,0,none⟩) n n qn qa ql qk qm qb qi qj
    obtain ⟨WN,hWN⟩:∃ WN,putL wC.heap.size wA 0 [.slice (some ⟨W3.heap.size,0,none⟩) n n,.bool qn,.slice qa ql qk,.bool qm,.slice qb qi qj] = WN:=⟨_,rfl⟩
    have hMN:Hid (MadeB WN W3.heap.size 71 zeroF n):=hide (by rw [← hWN]; exact hMk.putL_far hneq)
    have hQN:Hid (FracV WN (.agg #[.bool qn,.slice qa ql qk,.bool qm,.slice qb qi qj]) (zm:Rat)):=hide (by rw [← hWN]; exact hC.putL hCB hvc)
    have hBN:Blk WN wC.heap.size 99 #[.slice (some ⟨W3.heap.size,0,none⟩) n n,.bool qn,.slice qa ql qk,.bool qm,.slice qb qi qj]:=by rw [← hWN]; exact ((((b9.set_ 0 _).set_ 1 _).set_ 2 _).set_ 3 _).set_ 4 _
    have hBW:Below W3.heap.size W3 WN:=by rw [← hWN]; exact below_putL hS.2.2.2 hg9
    have k0:WN.cell? ⟨P,0,none⟩ = some (.int .i64 (n:Int)):=by rw [← hWN]; exact (cell_putL (.inl (show P ≠ wC.heap.size from fun e=>by have:=World.block_lt_of_cell? W3 _ hp3; simp at this; omega))).trans hS.1
    have k1:WN.cell? ⟨gM,0,none⟩ = some (.bool mn):=by rw [← hWN]; exact (cell_putL (.inl (show gM ≠ wC.heap.size from fun e=>by have:=World.block_lt_of_cell? W3 _ m0; simp at this; omega))).trans hS.2.1
    have k2:WN.cell? ⟨gM,1,none⟩ = some (.slice ma ml mk):=by rw [← hWN]; exact (cell_putL (.inl (show gM ≠ wC.heap.size from fun e=>by have:=World.block_lt_of_cell? W3 _ m0; simp at this; omega))).trans hS.2.2.1
    have z0:wA.cell? ⟨wC.heap.size,0,none⟩ = some (.slice none 0 0):=b9.cell 0
    have z1:wA.cell? ⟨wC.heap.size,1,none⟩ = some (.bool false):=b9.cell 1
    have z2:wA.cell? ⟨wC.heap.size,2,none⟩ = some (.slice none 0 0):=b9.cell 2
    have z3:wA.cell? ⟨wC.heap.size,3,none⟩ = some (.bool false):=b9.cell 3
    have z4:wA.cell? ⟨wC.heap.size,4,none⟩ = some (.slice none 0 0):=b9.cell 4
    have f0:=b9.frozen 0
    have f1:=b9.frozen 1
    have f2:=b9.frozen 2
    have f3:=b9.frozen 3
    have f4:=b9.frozen 4
    simp only [putL] at hWN
    have HWN:=hide hWN
    clear hWN
    go_simp
    refine hK.out _ _ (by rw [HWN.out]; exact ⟨k0,k1,k2,hBW⟩) (fun hS=>?_)
    clear hK K hS
    try simp only [Act.put,sB,sC,sD]
    refine wpAnyH_done (by kernel_rfl) ?_ _
    rw [HWN.out]
    clear HWN z0 z1 z2 z3 z4 f0 f1 f2 f3 f4 k0 k1 k2
    go_wp2_with fail
    go_meet
    exact ⟨_,_,qn,qa,ql,qk,qm,qb,qi,qj,rfl,hgU,hg9,hneq,hBW,hMN,hBN,hQN⟩
   ·have hlt:=hMk.1.lt
    have hg9:W3.heap.size ≤ wK.heap.size:=hS.2.2.2.size
    obtain ⟨wA,hwA⟩:∃ wA,(wK.alloc (.cells #[.slice none 0 0,.bool false,.slice none 0 0,.bool false,.slice none 0 0] 99)) = wA:=⟨_,rfl⟩
    have b9:Blk wA wK.heap.size 99 #[.slice none 0 0,.bool false,.slice none 0 0,.bool false,.slice none 0 0]:=by rw [← hwA]; exact Blk.new wK _ _
    have hb1:Below wK.heap.size wK wA:=by rw [← hwA]; exact (Below.refl wK.heap.size wK).alloc (Nat.le_refl _) _
    have HWA:=hide hwA
    clear hwA
    go_simp
    try (rw [HWA.out])
    refine hK.out _ _ (kp3 hS hb1) (fun hS=>?_)
    clear hK K HWA
    replace hMk:=hMk.below hb1
    clear hb1
    try simp only [Act.put,sB,sC,sD]
    refine wpAnyH_ready (rs:=[6]) (by kernel_rfl) (by simp) ?_
    refine AllReadyH.cons (o:=⟨some 16,.call { callee:=.value (.func 49),args:=#[.tmp 15],argTypes:=#[38] },71,"lia.go:125",#[eD 5],none⟩) rfl (fun K hK=>?_) AllReadyH.nil
    go_simp
    (go_at_call 49; (with_reducible refine (FOf2_any _ (hm3.below hS.2.2.2 (Nat.le_refl _)) sm).mono ?_); rintro e wC ⟨rC,rfl,hC,hb1⟩)
    obtain ⟨qn,qa,ql,qk,qm,qb,qi,qj,rfl,-,-⟩:=FracV.parts hC
    go_wp2_with fail
    refine hK.out _ _ (kp3 hS hb1) (fun hS=>?_)
    clear hK K
    replace hMk:=hMk.below hb1
    replace b9:=b9.below hb1 b9.lt
    clear hb1
    try simp only [Act.put,sB,sC,sD]
    refine tkH 7 ⟨some 17,.build 99 #[(0,.tmp 14),(1,.tmp 16)],99,"lia.go:125",#[eD 4,eD 6],none⟩ hS ?_
    try simp only [Act.put,sB,sC,sD]
    refine wpAnyH_ready (rs:=[9]) (by kernel_rfl) (by simp) ?_
    refine AllReadyH.cons (o:=⟨none,.store 99 (.tmp 9) (.tmp 17),0,"lia.go:125",#[eD 8,eD 7,eC 6,eP 0,eP 1,eP 2,eP 3,eP 4,eP 5,eP 6,eP 7,eP 8],none⟩) rfl (fun K hK=>?_) AllReadyH.nil
    have hneq:W3.heap.size ≠ wK.heap.size:=(Nat.ne_of_lt hlt)
    have hCB:CB wC wK.heap.size 99 5:=⟨_,b9,rfl,fun u hu=>row_calm none 0 0 false none 0 0 false none 0 0 u (by simpa using hu)⟩
    have hvc:=row_calm (some ⟨W3.heap.size,0,none⟩) n n qn qa ql qk qm qb qi qj
    obtain ⟨WN,hWN⟩:∃ WN,putL wK.heap.size wC 0 [.slice (some ⟨W3.heap.size,0,none⟩) n n,.bool qn,.slice qa ql qk,.bool qm,.slice qb qi qj] = WN:=⟨_,rfl⟩
    have hMN:Hid (MadeB WN W3.heap.size 71 zeroF n):=hide (by rw [← hWN]; exact hMk.putL_far hneq)
    have hQN:Hid (FracV WN (.agg #[.bool qn,.slice qa ql qk,.bool qm,.slice qb qi qj]) (zm:Rat)):=hide (by rw [← hWN]; exact hC.putL hCB hvc)
    have hBN:Blk WN wK.heap.size 99 #[.slice (some ⟨W3.heap.size,0,none⟩) n n,.bool qn,.slice qa ql qk,.bool qm,.slice qb qi qj]:=by rw [← hWN]; exact ((((b9.set_ 0 _).set_ 1 _).set_ 2 _).set_ 3 _).set_ 4 _
    have hBW:Below W3.heap.size W3 WN:=by rw [← hWN]; exact below_putL hS.2.2.2 hg9
    have k0:WN.cell? ⟨P,0,none⟩ = some (.int .i64 (n:Int)):=by rw [← hWN]; exact (cell_putL (.inl (show P ≠ wK.heap.size from fun e=>by have:=World.block_lt_of_cell? W3 _ hp3; simp at this; omega))).trans hS.1
    have k1:WN.cell? ⟨gM,0,none⟩ = some (.bool mn):=by rw [← hWN]; exact (cell_putL (.inl (show gM ≠ wK.heap.size from fun e=>by have:=World.block_lt_of_cell? W3 _ m0; simp at this; omega))).trans hS.2.1
    have k2:WN.cell? ⟨gM,1,none⟩ = some (.slice ma ml mk):=by rw [← hWN]; exact (cell_putL (.inl (show gM ≠ wK.heap.size from fun e=>by have:=World.block_lt_of_cell? W3 _ m0; simp at this; omega))).trans hS.2.2.1
    have z0:wC.cell? ⟨wK.heap.size,0,none⟩ = some (.slice none 0 0):=b9.cell 0
    have z1:wC.cell? ⟨wK.heap.size,1,none⟩ = some (.bool false):=b9.cell 1
    have z2:wC.cell? ⟨wK.heap.size,2,none⟩ = some (.slice none 0 0):=b9.cell 2
    have z3:wC.cell? ⟨wK.heap.size,3,none⟩ = some (.bool false):=b9.cell 3
    have z4:wC.cell? ⟨wK.heap.size,4,none⟩ = some (.slice none 0 0):=b9.cell 4
    have f0:=b9.frozen 0
    have f1:=b9.frozen 1
    have f2:=b9.frozen 2
    have f3:=b9.frozen 3
    have f4:=b9.frozen 4
    simp only [putL] at hWN
    have HWN:=hide hWN
    clear hWN
    go_simp
    refine hK.out _ _ (by rw [HWN.out]; exact ⟨k0,k1,k2,hBW⟩) (fun hS=>?_)
    clear hK K hS
    try simp only [Act.put,sB,sC,sD]
    refine wpAnyH_done (by kernel_rfl) ?_ _
    rw [HWN.out]
    clear HWN z0 z1 z2 z3 z4 f0 f1 f2 f3 f4 k0 k1 k2
    go_wp2_with fail
    go_meet
    exact ⟨_,_,qn,qa,ql,qk,qm,qb,qi,qj,rfl,hgU,hg9,hneq,hBW,hMN,hBN,hQN⟩
  ·go_simp
   (go_at_call 49; (with_reducible refine (FOf2_any _ (hm3.below hS.2.2.2 (Nat.le_refl _)) sm).mono ?_); rintro e wC ⟨rC,rfl,hC,hb1⟩)
   obtain ⟨qn,qa,ql,qk,qm,qb,qi,qj,rfl,-,-⟩:=FracV.parts hC
   go_wp2_with fail
   refine hK.out _ _ (kp3 hS hb1) (fun hS=>?_)
   clear hK K
   clear hb1
   try simp only [Act.put,sB,sC,sD]
   refine wpAnyH_ready (rs:=[4,8]) (by kernel_rfl) (by simp) ?_
   refine AllReadyH.cons (o:=⟨some 14,.makeSlice 61 (.tmp 13) (.tmp 13),61,"lia.go:125",#[eD 3,eD 3],none⟩) rfl (fun K hK=>?_) (AllReadyH.cons (o:=⟨some 9,.alloc 99,0,"lia.go:125",#[],none⟩) rfl (fun K hK=>?_) AllReadyH.nil)
   ·have hgU:W3.heap.size ≤ wC.heap.size:=hS.2.2.2.size
    refine step_make_b (n:=n) (z:=zeroF) rfl (.tmp 13) (.tmp 13) rfl Try.underlying61 infoF rfl (by decide) (by decide) zeroF_calm (by rfl) (by rfl) (by omega) ?_
    intro wK hMk hb1
    replace hMk:MadeB wK wC.heap.size 71 zeroF n:=hMk
    refine hK.out _ _ (kp3 hS hb1) (fun hS=>?_)
    clear hK K
    replace hC:=hC.below hb1 (Nat.le_refl _)
    clear hb1
    try simp only [Act.put,sB,sC,sD]
    refine tkH 7 ⟨some 17,.build 99 #[(0,.tmp 14),(1,.tmp 16)],99,"lia.go:125",#[eD 4,eD 6],none⟩ hS ?_
    try simp only [Act.put,sB,sC,sD]
    refine wpAnyH_ready (rs:=[8]) (by kernel_rfl) (by simp) ?_
    refine AllReadyH.cons (o:=⟨some 9,.alloc 99,0,"lia.go:125",#[],none⟩) rfl (fun K hK=>?_) AllReadyH.nil
    have hlt:=hMk.1.lt
    have hg9:W3.heap.size ≤ wK.heap.size:=hS.2.2.2.size
    obtain ⟨wA,hwA⟩:∃ wA,(wK.alloc (.cells #[.slice none 0 0,.bool false,.slice none 0 0,.bool false,.slice none 0 0] 99)) = wA:=⟨_,rfl⟩
    have b9:Blk wA wK.heap.size 99 #[.slice none 0 0,.bool false,.slice none 0 0,.bool false,.slice none 0 0]:=by rw [← hwA]; exact Blk.new wK _ _
    have hb1:Below wK.heap.size wK wA:=by rw [← hwA]; exact (Below.refl wK.heap.size wK).alloc (Nat.le_refl _) _
    have HWA:=hide hwA
    clear hwA
    go_simp
    try (rw [HWA.out])
    refine hK.out _ _ (kp3 hS hb1) (fun hS=>?_)
    clear hK K HWA
    replace hC:=hC.below hb1 (Nat.le_refl _)
    replace hMk:=hMk.below hb1
    clear hb1
    try simp only [Act.put,sB,sC,sD]
    refine wpAnyH_ready (rs:=[9]) (by kernel_rfl) (by simp) ?_
    refine AllReadyH.cons (o:=⟨none,.store 99 (.tmp 9) (.tmp 17),0,"lia.go:125",#[eD 8,eD 7,eC 6,eP 0,eP 1,eP 2,eP 3,eP 4,eP 5,eP 6,eP 7,eP 8],none⟩) rfl (fun K hK=>?_) AllReadyH.nil
    have hneq:wC.heap.size ≠ wK.heap.size:=(Nat.ne_of_lt hlt)
    have hCB:CB wA wK.heap.size 99 5:=⟨_,b9,rfl,fun u hu=>row_calm none 0 0 false none 0 0 false none 0 0 u (by simpa using hu)⟩
    have hvc:=row_calm (some ⟨wC.heap.size,0,none⟩) n n qn qa ql qk qm qb qi qj
    obtain ⟨WN,hWN⟩:∃ WN,putL wK.heap.size wA 0 [.slice (some ⟨wC.heap.size,0,none⟩) n n,.bool qn,.slice qa ql qk,.bool qm,.slice qb qi qj] = WN:=⟨_,rfl⟩
    have hMN:Hid (MadeB WN wC.heap.size 71 zeroF n):=hide (by rw [← hWN]; exact hMk.putL_far hneq)
    have hQN:Hid (FracV WN (.agg #[.bool qn,.slice qa ql qk,.bool qm,.slice qb qi qj]) (zm:Rat)):=hide (by rw [← hWN]; exact hC.putL hCB hvc)
    have hBN:Blk WN wK.heap.size 99 #[.slice (some ⟨wC.heap.size,0,none⟩) n n,.bool qn,.slice qa ql qk,.bool qm,.slice qb qi qj]:=by rw [← hWN]; exact ((((b9.set_ 0 _).set_ 1 _).set_ 2 _).set_ 3 _).set_ 4 _
    have hBW:Below W3.heap.size W3 WN:=by rw [← hWN]; exact below_putL hS.2.2.2 hg9
    have k0:WN.cell? ⟨P,0,none⟩ = some (.int .i64 (n:Int)):=by rw [← hWN]; exact (cell_putL (.inl (show P ≠ wK.heap.size from fun e=>by have:=World.block_lt_of_cell? W3 _ hp3; simp at this; omega))).trans hS.1
    have k1:WN.cell? ⟨gM,0,none⟩ = some (.bool mn):=by rw [← hWN]; exact (cell_putL (.inl (show gM ≠ wK.heap.size from fun e=>by have:=World.block_lt_of_cell? W3 _ m0; simp at this; omega))).trans hS.2.1
    have k2:WN.cell? ⟨gM,1,none⟩ = some (.slice ma ml mk):=by rw [← hWN]; exact (cell_putL (.inl (show gM ≠ wK.heap.size from fun e=>by have:=World.block_lt_of_cell? W3 _ m0; simp at this; omega))).trans hS.2.2.1
    have z0:wA.cell? ⟨wK.heap.size,0,none⟩ = some (.slice none 0 0):=b9.cell 0
    have z1:wA.cell? ⟨wK.heap.size,1,none⟩ = some (.bool false):=b9.cell 1
    have z2:wA.cell? ⟨wK.heap.size,2,none⟩ = some (.slice none 0 0):=b9.cell 2
    have z3:wA.cell? ⟨wK.heap.size,3,none⟩ = some (.bool false):=b9.cell 3
    have z4:wA.cell? ⟨wK.heap.size,4,none⟩ = some (.slice none 0 0):=b9.cell 4
    have f0:=b9.frozen 0
    have f1:=b9.frozen 1
    have f2:=b9.frozen 2
    have f3:=b9.frozen 3
    have f4:=b9.frozen 4
    simp only [putL] at hWN
    have HWN:=hide hWN
    clear hWN
    go_simp
    refine hK.out _ _ (by rw [HWN.out]; exact ⟨k0,k1,k2,hBW⟩) (fun hS=>?_)
    clear hK K hS
    try simp only [Act.put,sB,sC,sD]
    refine wpAnyH_done (by kernel_rfl) ?_ _
    rw [HWN.out]
    clear HWN z0 z1 z2 z3 z4 f0 f1 f2 f3 f4 k0 k1 k2
    go_wp2_with fail
    go_meet
    exact ⟨_,_,qn,qa,ql,qk,qm,qb,qi,qj,rfl,hgU,hg9,hneq,hBW,hMN,hBN,hQN⟩
   ·have hg9:W3.heap.size ≤ wC.heap.size:=hS.2.2.2.size
    obtain ⟨wA,hwA⟩:∃ wA,(wC.alloc (.cells #[.slice none 0 0,.bool false,.slice none 0 0,.bool false,.slice none 0 0] 99)) = wA:=⟨_,rfl⟩
    have b9:Blk wA wC.heap.size 99 #[.slice none 0 0,.bool false,.slice none 0 0,.bool false,.slice none 0 0]:=by rw [← hwA]; exact Blk.new wC _ _
    have hb1:Below wC.heap.size wC wA:=by rw [← hwA]; exact (Below.refl wC.heap.size wC).alloc (Nat.le_refl _) _
    have HWA:=hide hwA
    clear hwA
    go_simp
    try (rw [HWA.out])
    refine hK.out _ _ (kp3 hS hb1) (fun hS=>?_)
    clear hK K HWA
    replace hC:=hC.below hb1 (Nat.le_refl _)
    clear hb1
    try simp only [Act.put,sB,sC,sD]
    refine wpAnyH_ready (rs:=[4]) (by kernel_rfl) (by simp) ?_
    refine AllReadyH.cons (o:=⟨some 14,.makeSlice 61 (.tmp 13) (.tmp 13),61,"lia.go:125",#[eD 3,eD 3],none⟩) rfl (fun K hK=>?_) AllReadyH.nil
    have hlt:=b9.lt
    have hgU:W3.heap.size ≤ wA.heap.size:=hS.2.2.2.size
    refine step_make_b (n:=n) (z:=zeroF) rfl (.tmp 13) (.tmp 13) rfl Try.underlying61 infoF rfl (by decide) (by decide) zeroF_calm (by rfl) (by rfl) (by omega) ?_
    intro wK hMk hb1
    replace hMk:MadeB wK wA.heap.size 71 zeroF n:=hMk
    refine hK.out _ _ (kp3 hS hb1) (fun hS=>?_)
    clear hK K
    replace hC:=hC.below hb1 (Nat.le_refl _)
    replace b9:=b9.below hb1 b9.lt
    clear hb1
    try simp only [Act.put,sB,sC,sD]
    refine tkH 7 ⟨some 17,.build 99 #[(0,.tmp 14),(1,.tmp 16)],99,"lia.go:125",#[eD 4,eD 6],none⟩ hS ?_
    try simp only [Act.put,sB,sC,sD]
    refine wpAnyH_ready (rs:=[9]) (by kernel_rfl) (by simp) ?_
    refine AllReadyH.cons (o:=⟨none,.store 99 (.tmp 9) (.tmp 17),0,"lia.go:125",#[eD 8,eD 7,eC 6,eP 0,eP 1,eP 2,eP 3,eP 4,eP 5,eP 6,eP 7,eP 8],none⟩) rfl (fun K hK=>?_) AllReadyH.nil
    have hneq:wA.heap.size ≠ wC.heap.size:=(Nat.ne_of_gt hlt)
    have hCB:CB wK wC.heap.size 99 5:=⟨_,b9,rfl,fun u hu=>row_calm none 0 0 false none 0 0 false none 0 0 u (by simpa using hu)⟩
    have hvc:=row_calm (some ⟨wA.heap.size,0,none⟩) n n qn qa ql qk qm qb qi qj
    obtain ⟨WN,hWN⟩:∃ WN,putL wC.heap.size wK 0 [.slice (some ⟨wA.heap.size,0,none⟩) n n,.bool qn,.slice qa ql qk,.bool qm,.slice qb qi qj] = WN:=⟨_,rfl⟩
    have hMN:Hid (MadeB WN wA.heap.size 71 zeroF n):=hide (by rw [← hWN]; exact hMk.putL_far hneq)
    have hQN:Hid (FracV WN (.agg #[.bool qn,.slice qa ql qk,.bool qm,.slice qb qi qj]) (zm:Rat)):=hide (by rw [← hWN]; exact hC.putL hCB hvc)
    have hBN:Blk WN wC.heap.size 99 #[.slice (some ⟨wA.heap.size,0,none⟩) n n,.bool qn,.slice qa ql qk,.bool qm,.slice qb qi qj]:=by rw [← hWN]; exact ((((b9.set_ 0 _).set_ 1 _).set_ 2 _).set_ 3 _).set_ 4 _
    have hBW:Below W3.heap.size W3 WN:=by rw [← hWN]; exact below_putL hS.2.2.2 hg9
    have k0:WN.cell? ⟨P,0,none⟩ = some (.int .i64 (n:Int)):=by rw [← hWN]; exact (cell_putL (.inl (show P ≠ wC.heap.size from fun e=>by have:=World.block_lt_of_cell? W3 _ hp3; simp at this; omega))).trans hS.1
    have k1:WN.cell? ⟨gM,0,none⟩ = some (.bool mn):=by rw [← hWN]; exact (cell_putL (.inl (show gM ≠ wC.heap.size from fun e=>by have:=World.block_lt_of_cell? W3 _ m0; simp at this; omega))).trans hS.2.1
    have k2:WN.cell? ⟨gM,1,none⟩ = some (.slice ma ml mk):=by rw [← hWN]; exact (cell_putL (.inl (show gM ≠ wC.heap.size from fun e=>by have:=World.block_lt_of_cell? W3 _ m0; simp at this; omega))).trans hS.2.2.1
    have z0:wK.cell? ⟨wC.heap.size,0,none⟩ = some (.slice none 0 0):=b9.cell 0
    have z1:wK.cell? ⟨wC.heap.size,1,none⟩ = some (.bool false):=b9.cell 1
    have z2:wK.cell? ⟨wC.heap.size,2,none⟩ = some (.slice none 0 0):=b9.cell 2
    have z3:wK.cell? ⟨wC.heap.size,3,none⟩ = some (.bool false):=b9.cell 3
    have z4:wK.cell? ⟨wC.heap.size,4,none⟩ = some (.slice none 0 0):=b9.cell 4
    have f0:=b9.frozen 0
    have f1:=b9.frozen 1
    have f2:=b9.frozen 2
    have f3:=b9.frozen 3
    have f4:=b9.frozen 4
    simp only [putL] at hWN
    have HWN:=hide hWN
    clear hWN
    go_simp
    refine hK.out _ _ (by rw [HWN.out]; exact ⟨k0,k1,k2,hBW⟩) (fun hS=>?_)
    clear hK K hS
    try simp only [Act.put,sB,sC,sD]
    refine wpAnyH_done (by kernel_rfl) ?_ _
    rw [HWN.out]
    clear HWN z0 z1 z2 z3 z4 f0 f1 f2 f3 f4 k0 k1 k2
    go_wp2_with fail
    go_meet
    exact ⟨_,_,qn,qa,ql,qk,qm,qb,qi,qj,rfl,hgU,hg9,hneq,hBW,hMN,hBN,hQN⟩
  ·have hg9:W3.heap.size ≤ W3.heap.size:=hS.2.2.2.size
   obtain ⟨wA,hwA⟩:∃ wA,(W3.alloc (.cells #[.slice none 0 0,.bool false,.slice none 0 0,.bool false,.slice none 0 0] 99)).drew = wA:=⟨_,rfl⟩
   have b9:Blk wA W3.heap.size 99 #[.slice none 0 0,.bool false,.slice none 0 0,.bool false,.slice none 0 0]:=by rw [← hwA]; exact Blk.new W3.drew _ _
   have hb1:Below W3.drew.heap.size W3.drew wA:=by rw [← hwA]; exact (Below.refl W3.drew.heap.size W3.drew).alloc (Nat.le_refl _) _
   have HWA:=hide hwA
   clear hwA
   go_simp
   try (rw [HWA.out])
   refine hK.out _ _ (kp3 hS hb1) (fun hS=>?_)
   clear hK K HWA
   clear hb1
   try simp only [Act.put,sB,sC,sD]
   refine wpAnyH_ready (rs:=[4,6]) (by kernel_rfl) (by simp) ?_
   refine AllReadyH.cons (o:=⟨some 14,.makeSlice 61 (.tmp 13) (.tmp 13),61,"lia.go:125",#[eD 3,eD 3],none⟩) rfl (fun K hK=>?_) (AllReadyH.cons (o:=⟨some 16,.call { callee:=.value (.func 49),args:=#[.tmp 15],argTypes:=#[38] },71,"lia.go:125",#[eD 5],none⟩) rfl (fun K hK=>?_) AllReadyH.nil)
   ·have hlt:=b9.lt
    have hgU:W3.heap.size ≤ wA.heap.size:=hS.2.2.2.size
    refine step_make_b (n:=n) (z:=zeroF) rfl (.tmp 13) (.tmp 13) rfl Try.underlying61 infoF rfl (by decide) (by decide) zeroF_calm (by rfl) (by rfl) (by omega) ?_
    intro wK hMk hb1
    replace hMk:MadeB wK wA.heap.size 71 zeroF n:=hMk
    refine hK.out _ _ (kp3 hS hb1) (fun hS=>?_)
    clear hK K
    replace b9:=b9.below hb1 b9.lt
    clear hb1
    try simp only [Act.put,sB,sC,sD]
    refine wpAnyH_ready (rs:=[6]) (by kernel_rfl) (by simp) ?_
    refine AllReadyH.cons (o:=⟨some 16,.call { callee:=.value (.func 49),args:=#[.tmp 15],argTypes:=#[38] },71,"lia.go:125",#[eD 5],none⟩) rfl (fun K hK=>?_) AllReadyH.nil
    go_simp
    (go_at_call 49; (with_reducible refine (FOf2_any _ (hm3.below hS.2.2.2 (Nat.le_refl _)) sm).mono ?_); rintro e wC ⟨rC,rfl,hC,hb1⟩)
    obtain ⟨qn,qa,ql,qk,qm,qb,qi,qj,rfl,-,-⟩:=FracV.parts hC
    go_wp2_with fail
    refine hK.out _ _ (kp3 hS hb1) (fun hS=>?_)
    clear hK K
    replace b9:=b9.below hb1 b9.lt
    replace hMk:=hMk.below hb1
    clear hb1
    try simp only [Act.put,sB,sC,sD]
    refine tkH 7 ⟨some 17,.build 99 #[(0,.tmp 14),(1,.tmp 16)],99,"lia.go:125",#[eD 4,eD 6],none⟩ hS ?_
    try simp only [Act.put,sB,sC,sD]
    refine wpAnyH_ready (rs:=[9]) (by kernel_rfl) (by simp) ?_
    refine AllReadyH.cons (o:=⟨none,.store 99 (.tmp 9) (.tmp 17),0,"lia.go:125",#[eD 8,eD 7,eC 6,eP 0,eP 1,eP 2,eP 3,eP 4,eP 5,eP 6,eP 7,eP 8],none⟩) rfl (fun K hK=>?_) AllReadyH.nil
    have hneq:wA.heap.size ≠ W3.heap.size:=(Nat.ne_of_gt hlt)
    have hCB:CB wC W3.heap.size 99 5:=⟨_,b9,rfl,fun u hu=>row_calm none 0 0 false none 0 0 false none 0 0 u (by simpa using hu)⟩
    have hvc:=row_calm (some ⟨wA.heap.size,0,none⟩) n n qn qa ql qk qm qb qi qj
    obtain ⟨WN,hWN⟩:∃ WN,putL W3.heap.size wC 0 [.slice (some ⟨wA.heap.size,0,none⟩) n n,.bool qn,.slice qa ql qk,.bool qm,.slice qb qi qj] = WN:=⟨_,rfl⟩
    have hMN:Hid (MadeB WN wA.heap.size 71 zeroF n):=hide (by rw [← hWN]; exact hMk.putL_far hneq)
    have hQN:Hid (FracV WN (.agg #[.bool qn,.slice qa ql qk,.bool qm,.slice qb qi qj]) (zm:Rat)):=hide (by rw [← hWN]; exact hC.putL hCB hvc)
    have hBN:Blk WN W3.heap.size 99 #[.slice (some ⟨wA.heap.size,0,none⟩) n n,.bool qn,.slice qa ql qk,.bool qm,.slice qb qi qj]:=by rw [← hWN]; exact ((((b9.set_ 0 _).set_ 1 _).set_ 2 _).set_ 3 _).set_ 4 _
    have hBW:Below W3.heap.size W3 WN:=by rw [← hWN]; exact below_putL hS.2.2.2 hg9
    have k0:WN.cell? ⟨P,0,none⟩ = some (.int .i64 (n:Int)):=by rw [← hWN]; exact (cell_putL (.inl (show P ≠ W3.heap.size from fun e=>by have:=World.block_lt_of_cell? W3 _ hp3; simp at this; omega))).trans hS.1
    have k1:WN.cell? ⟨gM,0,none⟩ = some (.bool mn):=by rw [← hWN]; exact (cell_putL (.inl (show gM ≠ W3.heap.size from fun e=>by have:=World.block_lt_of_cell? W3 _ m0; simp at this; omega))).trans hS.2.1
    have k2:WN.cell? ⟨gM,1,none⟩ = some (.slice ma ml mk):=by rw [← hWN]; exact (cell_putL (.inl (show gM ≠ W3.heap.size from fun e=>by have:=World.block_lt_of_cell? W3 _ m0; simp at this; omega))).trans hS.2.2.1
    have z0:wC.cell? ⟨W3.heap.size,0,none⟩ = some (.slice none 0 0):=b9.cell 0
    have z1:wC.cell? ⟨W3.heap.size,1,none⟩ = some (.bool false):=b9.cell 1
    have z2:wC.cell? ⟨W3.heap.size,2,none⟩ = some (.slice none 0 0):=b9.cell 2
    have z3:wC.cell? ⟨W3.heap.size,3,none⟩ = some (.bool false):=b9.cell 3
    have z4:wC.cell? ⟨W3.heap.size,4,none⟩ = some (.slice none 0 0):=b9.cell 4
    have f0:=b9.frozen 0
    have f1:=b9.frozen 1
    have f2:=b9.frozen 2
    have f3:=b9.frozen 3
    have f4:=b9.frozen 4
    simp only [putL] at hWN
    have HWN:=hide hWN
    clear hWN
    go_simp
    refine hK.out _ _ (by rw [HWN.out]; exact ⟨k0,k1,k2,hBW⟩) (fun hS=>?_)
    clear hK K hS
    try simp only [Act.put,sB,sC,sD]
    refine wpAnyH_done (by kernel_rfl) ?_ _
    rw [HWN.out]
    clear HWN z0 z1 z2 z3 z4 f0 f1 f2 f3 f4 k0 k1 k2
    go_wp2_with fail
    go_meet
    exact ⟨_,_,qn,qa,ql,qk,qm,qb,qi,qj,rfl,hgU,hg9,hneq,hBW,hMN,hBN,hQN⟩
   ·go_simp
    (go_at_call 49; (with_reducible refine (FOf2_any _ (hm3.below hS.2.2.2 (Nat.le_refl _)) sm).mono ?_); rintro e wC ⟨rC,rfl,hC,hb1⟩)
    obtain ⟨qn,qa,ql,qk,qm,qb,qi,qj,rfl,-,-⟩:=FracV.parts hC
    go_wp2_with fail
    refine hK.out _ _ (kp3 hS hb1) (fun hS=>?_)
    clear hK K
    replace b9:=b9.below hb1 b9.lt
    clear hb1
    try simp only [Act.put,sB,sC,sD]
    refine wpAnyH_ready (rs:=[4]) (by kernel_rfl) (by simp) ?_
    refine AllReadyH.cons (o:=⟨some 14,.makeSlice 61 (.tmp 13) (.tmp 13),61,"lia.go:125",#[eD 3,eD 3],none⟩) rfl (fun K hK=>?_) AllReadyH.nil
    have hlt:=b9.lt
    have hgU:W3.heap.size ≤ wC.heap.size:=hS.2.2.2.size
    refine step_make_b (n:=n) (z:=zeroF) rfl (.tmp 13) (.tmp 13) rfl Try.underlying61 infoF rfl (by decide) (by decide) zeroF_calm (by rfl) (by rfl) (by omega) ?_
    intro wK hMk hb1
    replace hMk:MadeB wK wC.heap.size 71 zeroF n:=hMk
    refine hK.out _ _ (kp3 hS hb1) (fun hS=>?_)
    clear hK K
    replace b9:=b9.below hb1 b9.lt
    replace hC:=hC.below hb1 (Nat.le_refl _)
    clear hb1
    try simp only [Act.put,sB,sC,sD]
    refine tkH 7 ⟨some 17,.build 99 #[(0,.tmp 14),(1,.tmp 16)],99,"lia.go:125",#[eD 4,eD 6],none⟩ hS ?_
    try simp only [Act.put,sB,sC,sD]
    refine wpAnyH_ready (rs:=[9]) (by kernel_rfl) (by simp) ?_
    refine AllReadyH.cons (o:=⟨none,.store 99 (.tmp 9) (.tmp 17),0,"lia.go:125",#[eD 8,eD 7,eC 6,eP 0,eP 1,eP 2,eP 3,eP 4,eP 5,eP 6,eP 7,eP 8],none⟩) rfl (fun K hK=>?_) AllReadyH.nil
    have hneq:wC.heap.size ≠ W3.heap.size:=(Nat.ne_of_gt hlt)
    have hCB:CB wK W3.heap.size 99 5:=⟨_,b9,rfl,fun u hu=>row_calm none 0 0 false none 0 0 false none 0 0 u (by simpa using hu)⟩
    have hvc:=row_calm (some ⟨wC.heap.size,0,none⟩) n n qn qa ql qk qm qb qi qj
    obtain ⟨WN,hWN⟩:∃ WN,putL W3.heap.size wK 0 [.slice (some ⟨wC.heap.size,0,none⟩) n n,.bool qn,.slice qa ql qk,.bool qm,.slice qb qi qj] = WN:=⟨_,rfl⟩
    have hMN:Hid (MadeB WN wC.heap.size 71 zeroF n):=hide (by rw [← hWN]; exact hMk.putL_far hneq)
    have hQN:Hid (FracV WN (.agg #[.bool qn,.slice qa ql qk,.bool qm,.slice qb qi qj]) (zm:Rat)):=hide (by rw [← hWN]; exact hC.putL hCB hvc)
    have hBN:Blk WN W3.heap.size 99 #[.slice (some ⟨wC.heap.size,0,none⟩) n n,.bool qn,.slice qa ql qk,.bool qm,.slice qb qi qj]:=by rw [← hWN]; exact ((((b9.set_ 0 _).set_ 1 _).set_ 2 _).set_ 3 _).set_ 4 _
    have hBW:Below W3.heap.size W3 WN:=by rw [← hWN]; exact below_putL hS.2.2.2 hg9
    have k0:WN.cell? ⟨P,0,none⟩ = some (.int .i64 (n:Int)):=by rw [← hWN]; exact (cell_putL (.inl (show P ≠ W3.heap.size from fun e=>by have:=World.block_lt_of_cell? W3 _ hp3; simp at this; omega))).trans hS.1
    have k1:WN.cell? ⟨gM,0,none⟩ = some (.bool mn):=by rw [← hWN]; exact (cell_putL (.inl (show gM ≠ W3.heap.size from fun e=>by have:=World.block_lt_of_cell? W3 _ m0; simp at this; omega))).trans hS.2.1
    have k2:WN.cell? ⟨gM,1,none⟩ = some (.slice ma ml mk):=by rw [← hWN]; exact (cell_putL (.inl (show gM ≠ W3.heap.size from fun e=>by have:=World.block_lt_of_cell? W3 _ m0; simp at this; omega))).trans hS.2.2.1
    have z0:wK.cell? ⟨W3.heap.size,0,none⟩ = some (.slice none 0 0):=b9.cell 0
    have z1:wK.cell? ⟨W3.heap.size,1,none⟩ = some (.bool false):=b9.cell 1
    have z2:wK.cell? ⟨W3.heap.size,2,none⟩ = some (.slice none 0 0):=b9.cell 2
    have z3:wK.cell? ⟨W3.heap.size,3,none⟩ = some (.bool false):=b9.cell 3
    have z4:wK.cell? ⟨W3.heap.size,4,none⟩ = some (.slice none 0 0):=b9.cell 4
    have f0:=b9.frozen 0
    have f1:=b9.frozen 1
    have f2:=b9.frozen 2
    have f3:=b9.frozen 3
    have f4:=b9.frozen 4
    simp only [putL] at hWN
    have HWN:=hide hWN
    clear hWN
    go_simp
    refine hK.out _ _ (by rw [HWN.out]; exact ⟨k0,k1,k2,hBW⟩) (fun hS=>?_)
    clear hK K hS
    try simp only [Act.put,sB,sC,sD]
    refine wpAnyH_done (by kernel_rfl) ?_ _
    rw [HWN.out]
    clear HWN z0 z1 z2 z3 z4 f0 f1 f2 f3 f4 k0 k1 k2
    go_wp2_with fail
    go_meet
    exact ⟨_,_,qn,qa,ql,qk,qm,qb,qi,qj,rfl,hgU,hg9,hneq,hBW,hMN,hBN,hQN⟩
 case rest=>
  obtain ⟨gU,g9,qn,qa,ql,qk,qm,qb,qi,qj,rfl,hgU,hg9,hne,hBc,HM,b9,HQ⟩:=hcut
  have bT4:=bT.below hBc bT.lt
  have b84:=b8.below hBc b8.lt
  have ht4:IntV wc (.agg #[.bool tn,.slice ta tl tk]) zt:=ht3.below hBc (Nat.le_refl _)
  have h8l:=b8.lt
  have k0:wc.cell? ⟨g9,0,none⟩ = some (.slice (some ⟨gU,0,none⟩) n n):=b9.cell 0
  obtain ⟨t0,t1,-⟩:=bT4.c2
  have ev:(v:Int) < (n:Int):=by omega
  clear hp3 hm3 ht3 bM m0 m1 bT b8
  go_upto_region 2 with (fail)
  refine wp_region_till (S:=fun w'=>w'.cell? ⟨g9,0,none⟩ = some (.slice (some ⟨gU,0,none⟩) n n) ∧ w'.cell? ⟨gT,0,none⟩ = some (.bool tn) ∧ w'.cell? ⟨gT,1,none⟩ = some (.slice ta tl tk) ∧ Below wc.heap.size wc w') (fun i=>decide (i < 5)) (by kernel_rfl) (⟨k0,t0,t1,(Below.refl _ _).drew⟩) (fun hS=>?_)
  refine tkT 0 ⟨some 18,.fieldAddr 99 (.tmp 9) 0,0,"lia.go:126",#[],none⟩ hS ?_
  try simp only [Act.put,sB,sC,sD]
  refine tkT 1 ⟨some 19,.load 61 (.tmp 18),61,"lia.go:126",#[eD 0],none⟩ hS ?_
  try simp only [Act.put,sB,sC,sD]
  refine tkT 2 ⟨some 20,.move (.tmp 1),3,"lia.go:126",#[],none⟩ hS ?_
  try simp only [Act.put,sB,sC,sD]
  refine tkT 3 ⟨some 21,.load 38 (.tmp 6),38,"lia.go:126",#[],none⟩ hS ?_
  try simp only [Act.put,sB,sC,sD]
  refine Till_ready (rs:=[4]) (by kernel_rfl) (by kernel_rfl) (by simp) ?_
  refine AllReadyT.cons (o:=⟨some 22,.call { callee:=.value (.func 49),args:=#[.tmp 21],argTypes:=#[38] },71,"lia.go:126",#[eD 3],none⟩) rfl (fun K hK=>?_) AllReadyT.nil
  go_simp
  (go_at_call 49; (with_reducible refine (FOf2_any _ (ht4.below hS.2.2.2 (Nat.le_refl _)) st).mono ?_); rintro e wN ⟨rN,rfl,hN,hb1⟩)
  obtain ⟨un,ua,ul,uk,um,ub,ui,uj,rfl,-,-⟩:=FracV.parts hN
  go_wp2_with fail
  refine hK.out _ _ ((kp3 hS hb1)) (fun hS=>?_)
  clear hK K hb1
  try simp only [Act.put,sB,sC,sD]
  refine Till_turn (by kernel_rfl) ?_
  refine tkH 5 ⟨some 23,.indexAddr 61 (.tmp 19) (.tmp 20),0,"lia.go:126",#[eD 1,eD 2,eP 0,eP 1,eP 2,eP 3,eP 4],none⟩ trivial ?_
  try simp only [Act.put,sB,sC,sD]
  refine wpAnyH_ready (rs:=[6]) (by kernel_rfl) (by simp) ?_
  refine AllReadyH.cons (o:=⟨none,.store 71 (.tmp 23) (.tmp 22),0,"lia.go:126",#[eD 5,eD 4,eC 4,eP 0,eP 1,eP 2,eP 3,eP 4],none⟩) rfl (fun K hK=>?_) AllReadyH.nil
  have hBN:=hS.2.2.2
  have hM5:=HM.out.below hBN
  have hl9:=b9.lt
  have z0:wN.cell? ⟨gU,v * 4,none⟩ = some (.bool false):=hM5.2 v 0 hv (by decide)
  have z1:wN.cell? ⟨gU,v * 4 + 1,none⟩ = some (.slice none 0 0):=hM5.2 v 1 hv (by decide)
  have z2:wN.cell? ⟨gU,v * 4 + 2,none⟩ = some (.bool false):=hM5.2 v 2 hv (by decide)
  have z3:wN.cell? ⟨gU,v * 4 + 3,none⟩ = some (.slice none 0 0):=hM5.2 v 3 hv (by decide)
  have f0:=hM5.1.frozen (v * 4)
  have f1:=hM5.1.frozen (v * 4 + 1)
  have f2:=hM5.1.frozen (v * 4 + 2)
  have f3:=hM5.1.frozen (v * 4 + 3)
  obtain ⟨W5,hW5⟩:∃ W5,put4 wN gU (v * 4) (.bool un) (.slice ua ul uk) (.bool um) (.slice ub ui uj) = W5:=⟨_,rfl⟩
  have HU5:Hid (UnitR W5 gU n v (zt:Rat)):=hide (by rw [← hW5]; exact unit_put hM5 hv hN)
  have HQ5:Hid (FracV W5 (.agg #[.bool qn,.slice qa ql qk,.bool qm,.slice qb qi qj]) (zm:Rat)):=hide (by rw [← hW5]; exact FracV.put4 (HQ.out.below hBN (Nat.le_refl _)) (hM5.frac hv))
  have b95:Blk W5 g9 99 #[.slice (some ⟨gU,0,none⟩) n n,.bool qn,.slice qa ql qk,.bool qm,.slice qb qi qj]:=by rw [← hW5]; exact ((((b9.below hBN b9.lt).far (fun e=>hne e.symm) _).far (fun e=>hne e.symm) _).far (fun e=>hne e.symm) _).far (fun e=>hne e.symm) _
  have b85:Blk W5 g8 99 #[.slice none 0 0,.bool false,.slice none 0 0,.bool false,.slice none 0 0]:=by rw [← hW5]; exact ((((b84.below hBN b84.lt).far (by show g8 ≠ gU; omega) _).far (by show g8 ≠ gU; omega) _).far (by show g8 ≠ gU; omega) _).far (by show g8 ≠ gU; omega) _
  have hB5:Below W3.heap.size W3 W5:=by rw [← hW5]; exact below_put4 (hBc.trans (hBN.mono hBc.size)) hgU _ _ _ _
  simp only [put4] at hW5
  have HW5:=hide hW5
  clear hW5 hM5
  go_simp
  refine hK.out _ _ trivial (fun _=>?_)
  clear hK K z0 z1 z2 z3 f0 f1 f2 f3
  try simp only [Act.put,sB,sC,sD]
  refine wpAnyH_done (by kernel_rfl) ?_ _
  rw [HW5.out]
  clear HW5 hS k0 t0 t1
  have y0:W5.cell? ⟨g9,0,none⟩ = some (.slice (some ⟨gU,0,none⟩) n n):=b95.cell 0
  have y1:W5.cell? ⟨g9,1,none⟩ = some (.bool qn):=b95.cell 1
  have y2:W5.cell? ⟨g9,2,none⟩ = some (.slice qa ql qk):=b95.cell 2
  have y3:W5.cell? ⟨g9,3,none⟩ = some (.bool qm):=b95.cell 3
  have y4:W5.cell? ⟨g9,4,none⟩ = some (.slice qb qi qj):=b95.cell 4
  have x0:W5.cell? ⟨g8,0,none⟩ = some (.slice none 0 0):=b85.cell 0
  have x1:W5.cell? ⟨g8,1,none⟩ = some (.bool false):=b85.cell 1
  have x2:W5.cell? ⟨g8,2,none⟩ = some (.slice none 0 0):=b85.cell 2
  have x3:W5.cell? ⟨g8,3,none⟩ = some (.bool false):=b85.cell 3
  have x4:W5.cell? ⟨g8,4,none⟩ = some (.slice none 0 0):=b85.cell 4
  have f0:=b85.frozen 0
  have f1:=b85.frozen 1
  have f2:=b85.frozen 2
  have f3:=b85.frozen 3
  have f4:=b85.frozen 4
  have hCB:CB W5 g8 99 5:=⟨_,b85,rfl,fun u hu=>row_calm none 0 0 false none 0 0 false none 0 0 u (by simpa using hu)⟩
  have hvc:=row_calm (some ⟨gU,0,none⟩) n n qn qa ql qk qm qb qi qj
  obtain ⟨W6,hW6⟩:∃ W6,putL g8 W5 0 [.slice (some ⟨gU,0,none⟩) n n,.bool qn,.slice qa ql qk,.bool qm,.slice qb qi qj] = W6:=⟨_,rfl⟩
  have hU6:UnitR W6 gU n v (zt:Rat):=fun i hi=>by
   rw [← hW6]
   exact (HU5.out i hi).putL hCB hvc (.inl (by omega))
  have hQ6:FracV W6 (.agg #[.bool qn,.slice qa ql qk,.bool qm,.slice qb qi qj]) (zm:Rat):=by rw [← hW6]; exact HQ5.out.putL hCB hvc
  have b86:Blk W6 g8 99 #[.slice (some ⟨gU,0,none⟩) n n,.bool qn,.slice qa ql qk,.bool qm,.slice qb qi qj]:=by rw [← hW6]; exact ((((b85.set_ 0 _).set_ 1 _).set_ 2 _).set_ 3 _).set_ 4 _
  have hB6:Below w.heap.size w W6:=by rw [← hW6]; exact below_putL (sb.trans (hB5.mono sb.size)) (by have:=HGT.out; have:=HGM.out; have:=HG8.out; omega)
  have e0:W6.cell? ⟨g8,0,none⟩ = some (.slice (some ⟨gU,0,none⟩) n n):=b86.cell 0
  have e1:W6.cell? ⟨g8,1,none⟩ = some (.bool qn):=b86.cell 1
  have e2:W6.cell? ⟨g8,2,none⟩ = some (.slice qa ql qk):=b86.cell 2
  have e3:W6.cell? ⟨g8,3,none⟩ = some (.bool qm):=b86.cell 3
  have e4:W6.cell? ⟨g8,4,none⟩ = some (.slice qb qi qj):=b86.cell 4
  have HE:Hid (Post (.returned (.agg #[.slice (some ⟨gU,0,none⟩) n n,.bool qn,.slice qa ql qk,.bool qm,.slice qb qi qj])) W6):=hide (by
   rw [← HP.out]
   exact ⟨hB6,gU,qn,qa,ql,qk,qm,qb,qi,qj,Nat.le_trans sb.size hgU,rfl,hU6,hQ6⟩)
  simp only [putL] at hW6
  clear hU6 hQ6 b86 hB6 hCB hvc b95 b85 b84 b9 bT4
  go_wp2_with fail
  refine bodyPost_ret (v:=.agg #[.slice (some ⟨gU,0,none⟩) n n,.bool qn,.slice qa ql qk,.bool qm,.slice qb qi qj]) (by simp [results,Try.results60,go_sem,e0,e1,e2,e3,e4]) rfl ?_
  exact HE.out
end Go.Proofs.Ytphjffbldhhdiaa
