/- A table while it is turned: how it lies, the boxes beside it. -/
import Derived.Test.YtphjffbldhhdiaaSxRaw
import Derived.Test.YtphjffbldhhdiaaSxLay
namespace Go.Proofs.Ytphjffbldhhdiaa
open Go.RowKit

structure TurnS (N B:Nat) (w:World) (S:Sys) (L:Spots) (P:Nat → Rat → Prop) (t:Sim) (wr:World):Prop where
 n0:0 < S.n
 m0:0 < S.m
 tab:TabV wr S t L
 mem:TabM B wr S L
 bel:Below B w wr
 box:∀ g q,P g q → N ≤ g ∧ FAt wr g 0 q
 lp:L.p < N
 lm:L.gm < N
 lx:L.gx < N
 lv:L.gv < N
 lt:L.gt < N
 lc:L.gc < N
 lr:∀ l,l < S.m → L.row l < N
section
variable {N B:Nat} {w wr w':World} {S:Sys} {L:Spots} {P:Nat → Rat → Prop} {t:Sim}
theorem TurnS.bsize (h:TurnS N B w S L P t wr):B ≤ wr.heap.size:=Nat.le_trans h.mem.bt (Nat.le_of_lt (show L.gt < wr.heap.size from World.block_lt_of_cell? wr _ (h.tab.told 0 h.m0)))
theorem TurnS.below (h:TurnS N B w S L P t wr) (hb:Below wr.heap.size wr w'):TurnS N B w S L P t w':=
 { h with tab:=h.tab.below hb,mem:=h.mem.below h.tab h.n0 h.m0 hb,bel:=h.bel.trans (hb.mono h.bsize),box:=fun g q hp=>⟨(h.box g q hp).1,(h.box g q hp).2.below hb (Nat.le_refl _)⟩ }
theorem TurnS.drew (h:TurnS N B w S L P t wr):TurnS N B w S L P t wr.drew:=h.below (Below.refl _ _).drew
theorem TurnS.push (h:TurnS N B w S L P t wr) {g:Nat} {q:Rat} (hg:N ≤ g) (hq:FAt wr g 0 q):TurnS N B w S L (fun g' q'=>P g' q' ∨ (g' = g ∧ q' = q)) t wr:=
 { h with box:=fun g' q' hp=>hp.elim (fun hp=>h.box g' q' hp) (fun e=>by rw [e.1,e.2]; exact ⟨hg,hq⟩) }
theorem TurnS.sub (h:TurnS N B w S L P t wr) {P':Nat → Rat → Prop} (hp:∀ g q,P' g q → P g q):TurnS N B w S L P' t wr:=
 { h with box:=fun g q h'=>h.box g q (hp g q h') }
theorem TabV.congr (h:TabV wr S t L) {u:Sim} (h1:u.told = t.told) (h2:u.col = t.col) (h3:u.val = t.val) (h4:∀ l c,l < S.m → c < S.n → u.T l c = t.T l c):TabV wr S u L:=
 { h with val:=fun v hv=>by rw [h3]; exact h.val v hv,told:=fun l hl=>by rw [h1]; exact h.told l hl,col:=fun c hc=>by rw [h2]; exact h.col c hc,T:=fun l c hl hc=>by rw [h4 l c hl hc]; exact h.T l c hl hc }
theorem TurnS.congr (h:TurnS N B w S L P t wr) {u:Sim} (h1:u.told = t.told) (h2:u.col = t.col) (h3:u.val = t.val) (h4:∀ l c,l < S.m → c < S.n → u.T l c = t.T l c):TurnS N B w S L P u wr:=
 { h with tab:=h.tab.congr h1 h2 h3 h4 }
theorem TurnS.mix {X Y:Nat → Nat → Rat} (h:TurnS N B w S L P { t with T:=X } wr) (h4:∀ l c,l < S.m → c < S.n → Y l c = X l c):TurnS N B w S L P { t with T:=Y } wr:=h.congr rfl rfl rfl h4
variable {n m:Bool} {a b:Option Addr} {l0 k0 i0 j0:Nat} {q:Rat}
theorem TurnS.setVal (h:TurnS N B w S L P t wr) {v:Nat} (hv:v < S.n + S.m) (hq:FracV wr (.agg #[.bool n,.slice a l0 k0,.bool m,.slice b i0 j0]) q) :
  TurnS N B w S L P { t with val:=put t.val v q } (put4 wr L.gv (v * 4) (.bool n) (.slice a l0 k0) (.bool m) (.slice b i0 j0)):=
 { h with
  tab:=h.tab.setVal h.mem hv hq
  mem:=h.mem.put4 _ _ _ _
  bel:=below_put4 h.bel h.mem.bv _ _ _ _
  box:=fun g q' hp=>⟨(h.box g q' hp).1,(h.box g q' hp).2.put4 (h.tab.val v hv) (.inl (by have:=(h.box g q' hp).1; have:=h.lv; omega))⟩ }
theorem TurnS.setT (h:TurnS N B w S L P t wr) {l c:Nat} (hl:l < S.m) (hc:c < S.n) (hq:FracV wr (.agg #[.bool n,.slice a l0 k0,.bool m,.slice b i0 j0]) q) :
  TurnS N B w S L P { t with T:=put t.T l (put (t.T l) c q) } (put4 wr (L.row l) (c * 4) (.bool n) (.slice a l0 k0) (.bool m) (.slice b i0 j0)):=
 { h with
  tab:=h.tab.setT h.mem hl hc hq
  mem:=h.mem.put4 _ _ _ _
  bel:=below_put4 h.bel (h.mem.br l hl) _ _ _ _
  box:=fun g q' hp=>⟨(h.box g q' hp).1,(h.box g q' hp).2.put4 (h.tab.T l c hl hc) (.inl (by have:=(h.box g q' hp).1; have:=h.lr l hl; omega))⟩ }
theorem TurnS.setTold (h:TurnS N B w S L P t wr) {l v:Nat} (hl:l < S.m):TurnS N B w S L P { t with told:=put t.told l v } (wr.setCell ⟨L.gt,l,none⟩ (.int .i64 (v:Int))):=
 { h with
  tab:=h.tab.setTold h.mem hl
  mem:=h.mem.set1 _ _
  bel:=h.bel.setCell h.mem.bt _
  box:=fun g q' hp=>⟨(h.box g q' hp).1,(h.box g q' hp).2.setX (NoDig.of (h.tab.told l hl) (by intro z e; cases e)) (.inl (by have:=(h.box g q' hp).1; have:=h.lt; show L.gt ≠ g; omega)) _⟩ }
theorem TurnS.setCol (h:TurnS N B w S L P t wr) {c v:Nat} (hc:c < S.n):TurnS N B w S L P { t with col:=put t.col c v } (wr.setCell ⟨L.gc,c,none⟩ (.int .i64 (v:Int))):=
 { h with
  tab:=h.tab.setCol h.mem hc
  mem:=h.mem.set1 _ _
  bel:=h.bel.setCell h.mem.bc _
  box:=fun g q' hp=>⟨(h.box g q' hp).1,(h.box g q' hp).2.setX (NoDig.of (h.tab.col c hc) (by intro z e; cases e)) (.inl (by have:=(h.box g q' hp).1; have:=h.lc; show L.gc ≠ g; omega)) _⟩ }
end
theorem FAt.box {w:World} {g:Nat} {q:Rat} (h:FAt w g 0 q):∃ (n:Bool) (a:Option Addr) (l k:Nat) (m:Bool) (b:Option Addr) (i j:Nat),w.cell? ⟨g,0,none⟩ = some (.bool n) ∧ w.cell? ⟨g,1,none⟩ = some (.slice a l k) ∧ w.cell? ⟨g,2,none⟩ = some (.bool m) ∧ w.cell? ⟨g,3,none⟩ = some (.slice b i j) ∧ FracV w (.agg #[.bool n,.slice a l k,.bool m,.slice b i j]) q:=by
 obtain ⟨n,a,l,k,m,b,i,j,h0,h1,h2,h3,h4⟩:=h
 exact ⟨n,a,l,k,m,b,i,j,h0,h1,h2,h3,h4⟩
theorem FAt.of {w:World} {g:Nat} {q:Rat} {t:TypeId} {n m:Bool} {a b:Option Addr} {l k i j:Nat} (h:Blk w g t #[.bool n,.slice a l k,.bool m,.slice b i j]) (hq:FracV w (.agg #[.bool n,.slice a l k,.bool m,.slice b i j]) q):FAt w g 0 q:=
 ⟨n,a,l,k,m,b,i,j,h.c4.1,h.c4.2.1,h.c4.2.2.1,h.c4.2.2.2.1,hq⟩

open Classical in
noncomputable def mixT (T U:Nat → Nat → Rat) (p:Nat → Nat → Prop):Nat → Nat → Rat:=fun l c=>if p l c then U l c else T l c
section
variable {T U:Nat → Nat → Rat} {p p':Nat → Nat → Prop} {l c:Nat}
theorem mixT_yes (h:p l c):mixT T U p l c = U l c:=if_pos h
theorem mixT_no (h:¬p l c):mixT T U p l c = T l c:=if_neg h
theorem mixT_set (h:∀ l' c',p' l' c' ↔ (p l' c' ∨ (l' = l ∧ c' = c))) (l' c':Nat):mixT T U p' l' c' = put (mixT T U p) l (put (mixT T U p l) c (U l c)) l' c':=by
 unfold put
 by_cases hl:l' = l
 ·subst hl
  by_cases hc:c' = c
  ·subst hc
   rw [if_pos rfl]
   show _ = if c' = c' then U l' c' else _
   rw [if_pos rfl,mixT_yes ((h l' c').mpr (.inr ⟨rfl,rfl⟩))]
  ·rw [if_pos rfl]
   show _ = if c' = c then U l' c else _
   rw [if_neg hc]
   by_cases hp:p l' c'
   ·rw [mixT_yes hp,mixT_yes ((h l' c').mpr (.inl hp))]
   ·rw [mixT_no hp,mixT_no (fun e=>by rcases (h l' c').mp e with e | e; exact hp e; exact hc e.2)]
 ·rw [if_neg hl]
  by_cases hp:p l' c'
  ·rw [mixT_yes hp,mixT_yes ((h l' c').mpr (.inl hp))]
  ·rw [mixT_no hp,mixT_no (fun e=>by rcases (h l' c').mp e with e | e; exact hp e; exact hl e.1)]
theorem mixT_grow (h:∀ l' c',p l' c' → p' l' c') (he:∀ l' c',p' l' c' → ¬p l' c' → U l' c' = T l' c') (l' c':Nat):mixT T U p' l' c' = mixT T U p l' c':=by
 by_cases hp:p l' c'
 ·rw [mixT_yes hp,mixT_yes (h l' c' hp)]
 ·rw [mixT_no hp]
  by_cases hq:p' l' c'
  ·rw [mixT_yes hq,he l' c' hq hp]
  ·rw [mixT_no hq]
end

theorem stepV_zero {t:Sim} {c0 k:Nat} {step:Rat} (h:t.T k c0 = 0):stepV t c0 step (k + 1) = stepV t c0 step k:=by
 funext v
 rw [stepV]
 unfold put
 split
 ·rename_i e
  rw [e,h]
  grind
 ·rfl
theorem ordQ_ne {p:Rat} (h:p ≠ 0):ordQ p 0 ≠ 0:=by
 rw [ordQ_eq]
 split
 ·decide
 ·split
  ·decide
  ·grind
theorem ordQ_00 {p:Rat} (h:p = 0):ordQ p 0 = 0:=by rw [h,ordQ_eq]; decide
theorem pivT_row {T:Nat → Nat → Rat} {l0 c0 c:Nat} (h:c ≠ c0):pivT T l0 c0 l0 c = -(T l0 c / T l0 c0):=by simp [pivT,h]
theorem pivT_one {T:Nat → Nat → Rat} {l0 c0:Nat}:pivT T l0 c0 l0 c0 = 1 / T l0 c0:=by simp [pivT]
theorem pivT_col {T:Nat → Nat → Rat} {l0 c0 l:Nat} (h:l ≠ l0):pivT T l0 c0 l c0 = T l c0 * (1 / T l0 c0):=by simp [pivT,h]
theorem pivT_far {T:Nat → Nat → Rat} {l0 c0 l c:Nat} (h:l ≠ l0) (hc:c ≠ c0):pivT T l0 c0 l c = T l c + T l c0 * (-(T l0 c / T l0 c0)):=by simp [pivT,h,hc]
theorem pivT_row_size {T:Nat → Nat → Rat} {l0 c0 c:Nat} {k:Nat} (h1:Qn k (T l0 c)) (h0:Qn k (T l0 c0)) (hk:1 ≤ k):Qn (2 * k) (pivT T l0 c0 l0 c):=by
 by_cases h:c = c0
 ·subst h
  rw [pivT_one]
  exact Qn.mono (Qn.div Qn.one h0) (by omega)
 ·rw [pivT_row h]
  exact Qn.mono (Qn.neg (Qn.div h1 h0)) (by omega)
end Go.Proofs.Ytphjffbldhhdiaa
namespace Go.Proofs.Ytphjffbldhhdiaa
open Go.RowKit

set_option maxRecDepth 100000 in
set_option maxHeartbeats 6400000 in
theorem why_any {S:Sys} {s M:Nat} (hf:Fair S s M) {t:Sim} (hi:Inv S t) {L:Spots} {l:Nat} (w:World) (hT:TabV w S t L) (hl:l < S.m) (ho:S.Over t l) (hno:∀ c,c < S.n → ¬S.Free t l c) :
  Calls Try.prog 57 #[.pointer (some ⟨L.p,0,none⟩),.int .i64 (l:Int)] w (RowPost w S.m (whyK S t l S.n)):=by
 generalize hP:RowPost w S.m (whyK S t l S.n) = Post
 have HP:=hide hP
 clear hP
 obtain ⟨hn,hm⟩:=And.intro hf.n hf.m
 have hm0:0 < S.m:=by omega
 obtain ⟨v0,hv0⟩:∃ v,t.told l = v:=⟨_,rfl⟩
 obtain ⟨D0,he0⟩:∃ D,v0 = S.n + D:=⟨t.told l - S.n,by have:=ho.1; omega⟩
 have hD0:D0 < S.m:=by have:=hi.at'.toldLt l hl; omega
 have e4:(v0:Int) - (S.n:Int) = (D0:Int):=by omega
 have e6:(D0:Int) < (S.m:Int):=by omega
 have e7:IntKind.i64.wrap (D0:Int) = (D0:Int):=IntWalk.i64_in _ (by omega)
 have el:(l:Int) < (S.m:Int):=by omega
 have HD0:Hid (t.told l - S.n = D0):=hide (by omega)
 have k1:=hT.c1
 go_enter Try.func57,Try.ntmps57
 go_wp2_with (at_make; refine wpList_make_frac rfl _ _ rfl _ _ S.m rfl rfl rfl rfl (by omega) ?_)
 intro W hG0 hfr sb
 have hT1:=hT.below sb
 obtain ⟨G,hGG⟩:∃ G,w.heap.size = G:=⟨_,rfl⟩
 rw [hGG] at hG0 hfr sb ⊢
 have hGW:G < W.heap.size:=(hG0 0 hm0).lt
 clear k1
 have k0:=hT1.c0
 have k3:=hT1.c3
 have kt:=hT1.told l hl
 rw [hT.at_ hm0] at k3
 rw [hv0] at kt
 replace hv0:=hide hv0
 replace he0:=hide he0
 replace hGG:=hide hGG
 clear hT1
 go_upto_region 2 with (fail)
 refine wp_region_till (S:=fun w'=>w'.cell? ⟨L.p,0,none⟩ = some (.int .i64 (S.n:Int)) ∧ w'.cell? ⟨L.p,3,none⟩ = some (.slice (some ⟨L.gt,0,none⟩) S.m L.kt) ∧ w'.cell? ⟨L.gt,l,none⟩ = some (.int .i64 (v0:Int)) ∧ Below W.heap.size W w') (fun i=>decide (i < 15)) (by kernel_rfl) (⟨k0,k3,kt,(Below.refl _ _).drew⟩) (fun hS=>?_)
 refine tkT 0 ⟨some 15,.move (.tmp 5),61,"simplex.go:130",#[],none⟩ hS ?_
 try simp only [Act.put,sB,sC,sD]
 refine tkT 1 ⟨some 16,.move (.tmp 0),101,"simplex.go:130",#[],none⟩ hS ?_
 try simp only [Act.put,sB,sC,sD]
 refine tkT 2 ⟨some 17,.nilCheck (.tmp 16),0,"simplex.go:130",#[eD 1],none⟩ hS ?_
 try simp only [Act.put,sB,sC,sD]
 refine tkT 3 ⟨some 18,.fieldAddr 108 (.tmp 17) 3,0,"simplex.go:130",#[eD 2],none⟩ hS ?_
 try simp only [Act.put,sB,sC,sD]
 refine tkT 4 ⟨some 19,.load 26 (.tmp 18),26,"simplex.go:130",#[eD 3],none⟩ hS ?_
 try simp only [Act.put,sB,sC,sD]
 refine tkT 5 ⟨some 20,.move (.tmp 1),3,"simplex.go:130",#[],none⟩ hS ?_
 try simp only [Act.put,sB,sC,sD]
 refine tkT 6 ⟨some 21,.indexAddr 26 (.tmp 19) (.tmp 20),0,"simplex.go:130",#[eD 4,eD 5],none⟩ hS ?_
 try simp only [Act.put,sB,sC,sD]
 refine tkT 7 ⟨some 22,.load 3 (.tmp 21),3,"simplex.go:130",#[eD 6],none⟩ hS ?_
 try simp only [Act.put,sB,sC,sD]
 refine tkT 8 ⟨some 23,.move (.tmp 0),101,"simplex.go:130",#[],none⟩ hS ?_
 try simp only [Act.put,sB,sC,sD]
 refine tkT 9 ⟨some 24,.nilCheck (.tmp 23),0,"simplex.go:130",#[eD 8],none⟩ hS ?_
 try simp only [Act.put,sB,sC,sD]
 refine tkT 10 ⟨some 25,.fieldAddr 108 (.tmp 24) 0,0,"simplex.go:130",#[eD 9],none⟩ hS ?_
 try simp only [Act.put,sB,sC,sD]
 refine tkT 11 ⟨some 26,.load 3 (.tmp 25),3,"simplex.go:130",#[eD 10],none⟩ hS ?_
 try simp only [Act.put,sB,sC,sD]
 refine tkT 12 ⟨some 27,.binOp .sub 3 (.tmp 22) (.tmp 26) 3,3,"simplex.go:130",#[eD 7,eD 11],none⟩ hS ?_
 try simp only [Act.put,sB,sC,sD]
 refine Till_ready (rs:=[13]) (by kernel_rfl) (by kernel_rfl) (by simp) ?_
 refine AllReadyT.cons (o:=⟨some 28,.call { callee:=.value (.func 21),args:=#[.const (.int .i64 1)],argTypes:=#[2] },38,"simplex.go:130",#[],none⟩) rfl (fun K hK=>?_) AllReadyT.nil
 go_simp
 (go_at_call 21; (with_reducible refine (Of_any 1 _ (by decide) (by decide)).mono ?_); rintro e wA ⟨rA,rfl,hA,hb1⟩)
 obtain ⟨an,aa,al,ak,rfl⟩:=hA.form
 go_wp2_with fail
 refine hK.out _ _ (keepZ3 hS hb1) (fun hS=>?_)
 clear hK K hb1
 try simp only [Act.put,sB,sC,sD]
 refine Till_ready (rs:=[14]) (by kernel_rfl) (by kernel_rfl) (by simp) ?_
 refine AllReadyT.cons (o:=⟨some 29,.call { callee:=.value (.func 49),args:=#[.tmp 28],argTypes:=#[38] },71,"simplex.go:130",#[eD 13,eC 13],none⟩) rfl (fun K hK=>?_) AllReadyT.nil
 go_simp
 (go_at_call 49; (with_reducible refine (FOf2_any _ hA (sm_small (by decide))).mono ?_); rintro e wC ⟨rC,rfl,hC,hb1⟩)
 obtain ⟨yn,ya,yl,yk,ym,yb,yi,yj,rfl,-,-⟩:=FracV.parts hC
 go_wp2_with fail
 refine hK.out _ _ (keepZ3 hS hb1) (fun hS=>?_)
 clear hK K hb1
 try simp only [Act.put,sB,sC,sD]
 refine Till_turn (by kernel_rfl) ?_
 refine tkH 15 ⟨some 30,.indexAddr 61 (.tmp 15) (.tmp 27),0,"simplex.go:130",#[eD 0,eD 12,eP 0,eP 1,eP 2,eP 3,eP 4,eP 5,eP 6,eP 7,eP 8,eP 9,eP 10,eP 11,eP 12,eP 13,eP 14],none⟩ trivial ?_
 try simp only [Act.put,sB,sC,sD]
 refine wpAnyH_ready (rs:=[16]) (by kernel_rfl) (by simp) ?_
 refine AllReadyH.cons (o:=⟨none,.store 71 (.tmp 30) (.tmp 29),0,"simplex.go:130",#[eD 15,eD 14,eC 14,eP 0,eP 1,eP 2,eP 3,eP 4,eP 5,eP 6,eP 7,eP 8,eP 9,eP 10,eP 11,eP 12,eP 13,eP 14],none⟩) rfl (fun K hK=>?_) AllReadyH.nil
 have hB4:=hS.2.2.2
 have HF5:Hid (∀ i,i < S.m → FAt wC G (i * 4) 0):=hide (fun i hi=>(hG0 i hi).below hB4 (Nat.le_refl _))
 have hfr5:∀ i,wC.frozen? ⟨G,i,none⟩ = false:=fun i=>frozen_below hB4 hGW (hfr i)
 have hB5:Below G w wC:=sb.trans (hB4.mono (Nat.le_of_lt hGW))
 have hq:FracV wC (.agg #[.bool yn,.slice ya yl yk,.bool ym,.slice yb yi yj]) 1:=hC
 have hD0m:D0 < S.m:=hD0
 obtain ⟨_,_,_,_,_,_,_,_,z0,z1,z2,z3,-⟩:=HF5.out D0 hD0m
 have f0:=hfr5 (D0 * 4)
 have f1:=hfr5 (D0 * 4 + 1)
 have f2:=hfr5 (D0 * 4 + 2)
 have f3:=hfr5 (D0 * 4 + 3)
 obtain ⟨W3,hW3⟩:∃ W3,put4 wC G (D0 * 4) (.bool yn) (.slice ya yl yk) (.bool ym) (.slice yb yi yj) = W3:=⟨_,rfl⟩
 have hB3:Below G w W3:=by rw [← hW3]; exact below_put4 hB5 (Nat.le_refl G) _ _ _ _
 have hfr3:∀ i,W3.frozen? ⟨G,i,none⟩ = false:=fun i=>by rw [← hW3]; exact (frozen_put4 _ _ _ _ _ _ _ _).trans (hfr5 i)
 have HF3:Hid (∀ i,i < S.m → FAt W3 G (i * 4) (whyK S t l 0 i)):=hide (by rw [← hW3]; unfold whyK; rw [HD0.out]; exact rows_put HF5.out (by omega) hq)
 simp only [put4] at hW3
 have HW3:=hide hW3
 clear hW3
 go_simp
 refine hK.out _ _ trivial (fun _=>?_)
 clear hK K z0 z1 z2 z3 f0 f1 f2 f3
 try simp only [Act.put,sB,sC,sD]
 refine wpAnyH_done (by kernel_rfl) ?_ _
 rw [HW3.out]
 clear HW3 hS k0 k3 kt e4 e6 e7
 have hT3:=hT.below (by rw [hGG.out]; exact hB3)
 have k4:=hT3.c4
 clear hT3
 go_wp2_with fail
 clear k4
 go_loopg [36] S.n (fun k v36 wr=>∃ j:Nat,j + k = S.n ∧ v36 = .int .i64 (j:Int) ∧ Below G w wr ∧ Hid (∀ i,i < S.m → FAt wr G (i * 4) (whyK S t l j i)) ∧ (∀ i,wr.frozen? ⟨G,i,none⟩ = false))
 case atStart=>exact ⟨0,by omega,rfl,hB3,HF3,hfr3⟩
 case round=>
  clear hB3 HF3 hfr3
  obtain ⟨j,hjk,rfl,hB,HF,hfr⟩:=hrel
  rcases Nat.eq_zero_or_pos gk with h0 | h0
  ·subst h0
   obtain rfl:j = S.n:=by omega
   go_wp2_with fail
   rw [← HP.out]
   exact ⟨by rw [hGG.out]; exact hB,G,Nat.le_of_eq hGG.out,rfl,HF.out⟩
  ·have hj:j < S.n:=by omega
   have hT2:=hT.below (by rw [hGG.out]; exact hB)
   have k4:=hT2.c4
   have k5:=hT2.c5
   have kc:=hT2.col j hj
   have kr:=hT2.rows l hl
   have hn0:0 < S.n:=by omega
   rw [hT.ac hn0] at k4
   rw [hT.ax hm0] at k5
   rw [hT.ra l hl hn0] at kr
   obtain ⟨xn,xa,xl,xk,xm,xb,xi,xj,x0,x1,x2,x3,hx⟩:=hT2.T l j hl hj
   have zx:Qz (t.T l j):=(hf.T hi hl hj).z (by decide)
   obtain ⟨v,hv⟩:∃ v,t.col j = v:=⟨_,rfl⟩
   rw [hv] at kc
   obtain ⟨W2,hW2⟩:∃ W2,wr.alloc (.cells #[.bool xn,.slice xa xl xk,.bool xm,.slice xb xi xj] 71) = W2:=⟨_,rfl⟩
   have bx:Blk W2 wr.heap.size 71 #[.bool xn,.slice xa xl xk,.bool xm,.slice xb xi xj]:=by rw [← hW2]; exact Blk.new wr _ _
   have sb2:Below wr.heap.size wr W2:=by rw [← hW2]; exact (Below.refl wr.heap.size wr).alloc (Nat.le_refl _) _
   have hx2:=hx.below sb2 (Nat.le_refl _)
   have hlt:G < wr.heap.size:=(HF.out 0 hm0).lt
   replace HW2:=hide hW2
   clear hW2 hx
   have ej:(j:Int) < (S.n:Int):=by omega
   obtain ⟨C,hC⟩:∃ C,ordQ (t.T l j) 0 = C:=⟨_,rfl⟩
   replace HV:=hide hv
   have HC:=hide hC
   clear hC hv
   have hix:(Instr.indexAt 26 (.slice L.ac S.n L.kc) (.int .i64 (j:Int))).run Try.prog wr = .ok (.pointer (some ⟨L.gc,j,none⟩)) wr:=by
    rw [hT.ac hn0]
    go_simp
   go_upto_region 7 with (fail)
   clear hix
   rw [HW2.out]
   clear HW2 x0 x1 x2 x3 k4 k5 kc kr hT2
   obtain ⟨b0,b1,b2,b3,-⟩:=bx.c4
   go_wp2_with fail
   refine (sign_at hx2 zx HC.out).mono ?_
   rintro e w5 ⟨rfl,hb5⟩
   have sb5:=sb2.trans (hb5.mono sb2.size)
   by_cases hT0:t.T l j = 0
   ·obtain rfl:C = 0:=by rw [← HC.out,hT0,ordQ_eq]; decide
    have HE:Hid (whyK S t l (j + 1) = whyK S t l j):=hide (if_pos hT0)
    clear hT0
    go_wp2_with fail
    go_roundg (gk - 1)
    case measure=>omega
    case rel=>
     exact ⟨j + 1,by omega,by go_num,hB.trans (sb5.mono (Nat.le_of_lt hlt)),hide (fun i hi=>by rw [HE.out]; exact (HF.out i hi).below sb5 (Nat.le_refl _)),fun i=>frozen_below sb5 hlt (hfr i)⟩
   ·obtain ⟨hneg,hge⟩:=why_neg hi hno hj hT0
    obtain rfl:C = -1:=by rw [← HC.out,ordQ_eq,if_pos hneg]
    have HE:Hid (whyK S t l (j + 1) = put (whyK S t l j) (t.col j - S.n) (-(t.T l j))):=hide (if_neg hT0)
    obtain ⟨D,he⟩:∃ D,v = S.n + D:=⟨v - S.n,by have:=HV.out; omega⟩
    have hD:D < S.m:=by have:=hi.at'.colLt j hj; have:=HV.out; omega
    have HDD:Hid (t.col j - S.n = D):=hide (by have:=HV.out; omega)
    have e4:(v:Int) - (S.n:Int) = (D:Int):=by omega
    have e6:(D:Int) < (S.m:Int):=by omega
    have e7:IntKind.i64.wrap (D:Int) = (D:Int):=IntWalk.i64_in _ (by omega)
    replace he:=hide he
    clear hT0 hneg hge
    have hx5:=hx2.below hb5 (Nat.le_refl _)
    have c0:=cellB b0 hb5 (Nat.le_refl _)
    have c1:=cellB b1 hb5 (Nat.le_refl _)
    have c2:=cellB b2 hb5 (Nat.le_refl _)
    have c3:=cellB b3 hb5 (Nat.le_refl _)
    have k0:=(hT.below (by rw [hGG.out]; exact hB.trans (sb5.mono (Nat.le_of_lt hlt)))).c0
    clear b0 b1 b2 b3 bx hx2
    go_upto_region 8 with (fail)
    refine wp_region_till (S:=fun w'=>w'.cell? ⟨L.p,0,none⟩ = some (.int .i64 (S.n:Int)) ∧ w'.cell? ⟨wr.heap.size,0,none⟩ = some (.bool xn) ∧ w'.cell? ⟨wr.heap.size,1,none⟩ = some (.slice xa xl xk) ∧ w'.cell? ⟨wr.heap.size,2,none⟩ = some (.bool xm) ∧ w'.cell? ⟨wr.heap.size,3,none⟩ = some (.slice xb xi xj) ∧ Below w5.heap.size w5 w') (fun i=>decide (i < 9)) (by kernel_rfl) (⟨k0,c0,c1,c2,c3,(Below.refl _ _).drew⟩) (fun hS=>?_)
    refine tkT 0 ⟨some 54,.move (.tmp 5),61,"simplex.go:133",#[],none⟩ hS ?_
    try simp only [Act.put,sB,sC,sD]
    refine tkT 1 ⟨some 55,.move (.tmp 7),3,"simplex.go:133",#[],none⟩ hS ?_
    try simp only [Act.put,sB,sC,sD]
    refine tkT 2 ⟨some 56,.move (.tmp 0),101,"simplex.go:133",#[],none⟩ hS ?_
    try simp only [Act.put,sB,sC,sD]
    refine tkT 3 ⟨some 57,.nilCheck (.tmp 56),0,"simplex.go:133",#[eD 2],none⟩ hS ?_
    try simp only [Act.put,sB,sC,sD]
    refine tkT 4 ⟨some 58,.fieldAddr 108 (.tmp 57) 0,0,"simplex.go:133",#[eD 3],none⟩ hS ?_
    try simp only [Act.put,sB,sC,sD]
    refine tkT 5 ⟨some 59,.load 3 (.tmp 58),3,"simplex.go:133",#[eD 4],none⟩ hS ?_
    try simp only [Act.put,sB,sC,sD]
    refine tkT 6 ⟨some 60,.binOp .sub 3 (.tmp 55) (.tmp 59) 3,3,"simplex.go:133",#[eD 1,eD 5],none⟩ hS ?_
    try simp only [Act.put,sB,sC,sD]
    refine tkT 7 ⟨some 61,.load 71 (.tmp 8),71,"simplex.go:133",#[],none⟩ hS ?_
    try simp only [Act.put,sB,sC,sD]
    refine Till_ready (rs:=[8]) (by kernel_rfl) (by kernel_rfl) (by simp) ?_
    refine AllReadyT.cons (o:=⟨some 62,.call { callee:=.value (.func 76),args:=#[.tmp 61],argTypes:=#[71] },71,"simplex.go:133",#[eD 7],none⟩) rfl (fun K hK=>?_) AllReadyT.nil
    go_simp
    (go_at_call 76; (with_reducible refine (FNeg_any _ (hx5.below hS.2.2.2.2.2 (Nat.le_refl _)) zx).mono ?_); rintro e wN ⟨rN,rfl,hN,hb1⟩)
    obtain ⟨yn,ya,yl,yk,ym,yb,yi,yj,rfl,-,-⟩:=FracV.parts hN
    go_wp2_with fail
    refine hK.out _ _ (keepZ5 hS hb1) (fun hS=>?_)
    clear hK K hb1
    try simp only [Act.put,sB,sC,sD]
    refine Till_turn (by kernel_rfl) ?_
    refine tkH 9 ⟨some 63,.indexAddr 61 (.tmp 54) (.tmp 60),0,"simplex.go:133",#[eD 0,eD 6,eP 0,eP 1,eP 2,eP 3,eP 4,eP 5,eP 6,eP 7,eP 8],none⟩ trivial ?_
    try simp only [Act.put,sB,sC,sD]
    refine wpAnyH_ready (rs:=[10]) (by kernel_rfl) (by simp) ?_
    refine AllReadyH.cons (o:=⟨none,.store 71 (.tmp 63) (.tmp 62),0,"simplex.go:133",#[eD 9,eD 8,eC 8,eP 0,eP 1,eP 2,eP 3,eP 4,eP 5,eP 6,eP 7,eP 8],none⟩) rfl (fun K hK=>?_) AllReadyH.nil
    have hB4:=sb5.trans (hS.2.2.2.2.2.mono sb5.size)
    have HF5:Hid (∀ i,i < S.m → FAt wN G (i * 4) (whyK S t l j i)):=hide (fun i hi=>(HF.out i hi).below hB4 (Nat.le_refl _))
    have hfr5:∀ i,wN.frozen? ⟨G,i,none⟩ = false:=fun i=>frozen_below hB4 hlt (hfr i)
    have hB5:Below G w wN:=hB.trans (hB4.mono (Nat.le_of_lt hlt))
    have hq:=hN
    obtain ⟨_,_,_,_,_,_,_,_,z0,z1,z2,z3,-⟩:=HF5.out D hD
    have f0:=hfr5 (D * 4)
    have f1:=hfr5 (D * 4 + 1)
    have f2:=hfr5 (D * 4 + 2)
    have f3:=hfr5 (D * 4 + 3)
    obtain ⟨W3,hW3⟩:∃ W3,put4 wN G (D * 4) (.bool yn) (.slice ya yl yk) (.bool ym) (.slice yb yi yj) = W3:=⟨_,rfl⟩
    have hB3:Below G w W3:=by rw [← hW3]; exact below_put4 hB5 (Nat.le_refl G) _ _ _ _
    have hfr3:∀ i,W3.frozen? ⟨G,i,none⟩ = false:=fun i=>by rw [← hW3]; exact (frozen_put4 _ _ _ _ _ _ _ _).trans (hfr5 i)
    have HF3:Hid (∀ i,i < S.m → FAt W3 G (i * 4) (whyK S t l (j + 1) i)):=hide (by rw [← hW3]; rw [HE.out,HDD.out]; exact rows_put HF5.out (by omega) hq)
    simp only [put4] at hW3
    have HW3:=hide hW3
    clear hW3
    go_simp
    refine hK.out _ _ trivial (fun _=>?_)
    clear hK K z0 z1 z2 z3 f0 f1 f2 f3
    try simp only [Act.put,sB,sC,sD]
    refine wpAnyH_done (by kernel_rfl) ?_ _
    rw [HW3.out]
    clear HW3 hS c0 c1 c2 c3 k0 e4 e6 e7
    go_wp2_with fail
    go_roundg (gk - 1)
    case measure=>omega
    case rel=>exact ⟨j + 1,by omega,by go_num,hB3,HF3,hfr3⟩

def TurnPost (w:World) (S:Sys) (L:Spots) (B:Nat) (u:Sim) (e:Ending) (w':World):Prop:=
 e = .returned (.tuple #[]) ∧ TabV w' S u L ∧ TabM B w' S L ∧ Below B w w'

set_option maxRecDepth 100000 in
set_option maxHeartbeats 12800000 in
theorem turn_any {S:Sys} {s M:Nat} (hf:Fair S s M) {t:Sim} (hi:Inv S t) {L:Spots} {B l c:Nat} (w:World) (hT:TabV w S t L) (hM:TabM B w S L) (hl:l < S.m) (hc:c < S.n) (ho:S.n ≤ t.told l) :
  Calls Try.prog 58 #[.pointer (some ⟨L.p,0,none⟩),.int .i64 (l:Int),.int .i64 (c:Int)] w (TurnPost w S L B (turnT S t l c)):=by
 obtain ⟨U,hU⟩:∃ U,turnT S t l c = U:=⟨_,rfl⟩
 generalize hP:TurnPost w S L B (turnT S t l c) = Post
 rw [hU] at hP
 have HP:=hide hP
 have HU:=hide hU
 clear hP hU
 obtain ⟨hn,hm⟩:=And.intro hf.n hf.m
 have hm0:0 < S.m:=by omega
 have hn0:0 < S.n:=by omega
 obtain ⟨st,hst⟩:∃ st,turnStep S t l c = st:=⟨_,rfl⟩
 obtain ⟨O,hO⟩:∃ O,t.told l = O:=⟨_,rfl⟩
 obtain ⟨I,hI⟩:∃ I,t.col c = I:=⟨_,rfl⟩
 obtain ⟨D,he⟩:∃ D,O = S.n + D:=⟨t.told l - S.n,by omega⟩
 have hD:D < S.m:=by have:=hi.at'.toldLt l hl; omega
 have hOl:O < S.n + S.m:=by omega
 have hIl:I < S.n + S.m:=by have:=hi.at'.colLt c hc; omega
 have HST:Hid ((S.most D - t.val O) / t.T l c = st):=hide (by rw [← hst,turnStep,hO,he,show S.n + D - S.n = D from by omega])
 have zT:∀ l' c',l' < S.m → c' < S.n → Qn 10000000 (t.T l' c'):=fun l' c' h1 h2=>hf.T hi h1 h2
 have zV:∀ v,v < S.n + S.m → Qn 10000000000 (t.val v):=fun v hv=>hf.val hi hv
 have zm:Qz (S.most D):=(hf.mostZ hD).z (by decide)
 have zd:Qz (S.most D - t.val O):=by
  rw [Rat.sub_eq_add_neg]
  exact (Qn.add (hf.mostZ hD) (Qn.neg (zV O hOl))).z (by decide)
 have zs:Qn 11010000001 st:=by
  rw [← HST.out,Rat.sub_eq_add_neg]
  exact Qn.mono (Qn.div (Qn.add (hf.mostZ hD) (Qn.neg (zV O hOl))) (zT l c hl hc)) (by decide)
 have HUV:Hid (put (stepV t c st S.m) I (stepV t c st S.m I + st) = U.val):=hide (by rw [← hst,← hI,← HU.out]; rfl)
 have HUT:Hid (put t.told l I = U.told):=hide (by rw [← hI,← HU.out]; rfl)
 have HUC:Hid (put t.col c O = U.col):=hide (by rw [← hO,← HU.out]; rfl)
 have HUP:Hid (U.T = pivT t.T l c):=hide (by rw [← HU.out]; rfl)
 have zst:Qz st:=zs.z (by decide)
 have HZT:=hide zT
 have HZV:=hide zV
 have e4:(O:Int) - (S.n:Int) = (D:Int):=by omega
 have e5:(O:Int) < (S.n:Int) + (S.m:Int):=by omega
 have e6:(D:Int) < (S.m:Int):=by omega
 have e7:IntKind.i64.wrap (D:Int) = (D:Int):=IntWalk.i64_in _ (by omega)
 have e8:(I:Int) < (S.n:Int) + (S.m:Int):=by omega
 have el:(l:Int) < (S.m:Int):=by omega
 have ec:(c:Int) < (S.n:Int):=by omega
 replace he:=hide he
 have HO:=hide hO
 have HI:=hide hI
 clear zT zV hst
 have h0:TurnS w.heap.size B w S L (fun _ _=>False) t w:={
  n0:=hn0,m0:=hm0,tab:=hT,mem:=hM,bel:=Below.refl _ _,box:=fun _ _ h=>h.elim,
  lp:=World.block_lt_of_cell? w _ hT.c0,lm:=(hT.most 0 hm0).lt,lx:=World.block_lt_of_cell? w _ (hT.rows 0 hm0),lv:=(hT.val 0 (by omega)).lt,lt:=World.block_lt_of_cell? w _ (hT.told 0 hm0),lc:=World.block_lt_of_cell? w _ (hT.col 0 hn0),lr:=fun l hl=>(hT.T l 0 hl hn0).lt }
 have k3:=hT.c3
 have k4:=hT.c4
 have kt:=hT.told l hl
 have kc:=hT.col c hc
 rw [hT.at_ hm0] at k3
 rw [hT.ac hn0] at k4
 rw [hO] at kt
 rw [hI] at kc
 have a5:=hT.ax hm0
 have a1:=hT.am hm0
 have a2:=hT.av (by omega)
 have a3:=hT.at_ hm0
 have a4:=hT.ac hn0
 have ar:∀ l,l < S.m → L.ra l = some ⟨L.row l,0,none⟩:=fun l hl=>hT.ra l hl hn0
 replace a1:=hide a1
 replace a2:=hide a2
 replace a3:=hide a3
 replace a4:=hide a4
 replace a5:=hide a5
 replace ar:=hide ar
 clear hT hM hO hI
 go_enter Try.func58,Try.ntmps58
 go_upto_region 0 with (fail)
 refine wp_region_held_drew (S:=fun w'=>w'.cell? ⟨L.p,3,none⟩ = some (.slice (some ⟨L.gt,0,none⟩) S.m L.kt) ∧ w'.cell? ⟨L.gt,l,none⟩ = some (.int .i64 (O:Int)) ∧ w'.cell? ⟨L.p,4,none⟩ = some (.slice (some ⟨L.gc,0,none⟩) S.n L.kc) ∧ w'.cell? ⟨L.gc,c,none⟩ = some (.int .i64 (I:Int)) ∧ Below w.heap.size w w') (by kernel_rfl) (⟨k3,kt,k4,kc,(Below.refl _ _).drew⟩) (fun hS=>?_)
 refine tkH 0 ⟨some 21,.move (.tmp 0),101,"simplex.go:141",#[],none⟩ hS ?_
 try simp only [Act.put,sB,sC,sD]
 refine tkH 1 ⟨some 22,.nilCheck (.tmp 21),0,"simplex.go:141",#[eD 0],none⟩ hS ?_
 try simp only [Act.put,sB,sC,sD]
 refine tkH 2 ⟨some 23,.fieldAddr 108 (.tmp 22) 3,0,"simplex.go:141",#[eD 1],none⟩ hS ?_
 try simp only [Act.put,sB,sC,sD]
 refine tkH 3 ⟨some 24,.load 26 (.tmp 23),26,"simplex.go:141",#[eD 2],none⟩ hS ?_
 try simp only [Act.put,sB,sC,sD]
 refine tkH 4 ⟨some 25,.move (.tmp 1),3,"simplex.go:141",#[],none⟩ hS ?_
 try simp only [Act.put,sB,sC,sD]
 refine tkH 5 ⟨some 26,.indexAddr 26 (.tmp 24) (.tmp 25),0,"simplex.go:141",#[eD 3,eD 4],none⟩ hS ?_
 try simp only [Act.put,sB,sC,sD]
 refine tkH 6 ⟨some 27,.load 3 (.tmp 26),3,"simplex.go:141",#[eD 5],none⟩ hS ?_
 try simp only [Act.put,sB,sC,sD]
 refine tkH 7 ⟨some 28,.move (.tmp 0),101,"simplex.go:141",#[{ on:=14,ground:=Ground.gcOnly Departure.lateStores }],none⟩ hS ?_
 try simp only [Act.put,sB,sC,sD]
 refine tkH 8 ⟨some 29,.nilCheck (.tmp 28),0,"simplex.go:141",#[eD 7,{ on:=14,ground:=Ground.gcOnly Departure.lateStores }],none⟩ hS ?_
 try simp only [Act.put,sB,sC,sD]
 refine tkH 9 ⟨some 30,.fieldAddr 108 (.tmp 29) 4,0,"simplex.go:141",#[eD 8,{ on:=14,ground:=Ground.gcOnly Departure.lateStores }],none⟩ hS ?_
 try simp only [Act.put,sB,sC,sD]
 refine tkH 10 ⟨some 31,.load 26 (.tmp 30),26,"simplex.go:141",#[eD 9,{ on:=14,ground:=Ground.gcOnly Departure.lateStores }],none⟩ hS ?_
 try simp only [Act.put,sB,sC,sD]
 refine tkH 11 ⟨some 32,.move (.tmp 2),3,"simplex.go:141",#[{ on:=14,ground:=Ground.gcOnly Departure.lateStores }],none⟩ hS ?_
 try simp only [Act.put,sB,sC,sD]
 refine tkH 12 ⟨some 33,.indexAddr 26 (.tmp 31) (.tmp 32),0,"simplex.go:141",#[eD 10,eD 11,{ on:=14,ground:=Ground.gcOnly Departure.lateStores }],none⟩ hS ?_
 try simp only [Act.put,sB,sC,sD]
 refine tkH 13 ⟨some 34,.load 3 (.tmp 33),3,"simplex.go:141",#[eD 12,{ on:=14,ground:=Ground.gcOnly Departure.lateStores }],none⟩ hS ?_
 try simp only [Act.put,sB,sC,sD]
 refine tkH 14 ⟨some 6,.assign (.tmp 27),3,"simplex.go:141",#[eD 6,eP 0,eP 1,eP 2,eP 3,eP 4,eP 5,eP 6,{ on:=7,ground:=Ground.textOnly Departure.lateStores },{ on:=8,ground:=Ground.textOnly Departure.lateStores },{ on:=9,ground:=Ground.textOnly Departure.lateStores },{ on:=10,ground:=Ground.textOnly Departure.lateStores },{ on:=11,ground:=Ground.textOnly Departure.lateStores },{ on:=12,ground:=Ground.textOnly Departure.lateStores },{ on:=13,ground:=Ground.textOnly Departure.lateStores }],none⟩ hS ?_
 try simp only [Act.put,sB,sC,sD]
 refine tkH 15 ⟨some 7,.assign (.tmp 34),3,"simplex.go:141",#[eD 13,eC 14,eP 0,eP 1,eP 2,eP 3,eP 4,eP 5,eP 6,eP 7,eP 8,eP 9,eP 10,eP 11,eP 12,eP 13,eP 14],none⟩ hS ?_
 try simp only [Act.put,sB,sC,sD]
 refine wpAnyH_done (by kernel_rfl) ?_ _
 obtain ⟨w0,hw0⟩:∃ w0,w.drew = w0:=⟨_,rfl⟩
 have h1:TurnS w.heap.size B w S L (fun _ _=>False) t w0:=by rw [← hw0]; exact h0.drew
 have hN0:w.heap.size ≤ w0.heap.size:=by rw [← hw0]; exact Nat.le_refl _
 rw [hw0]
 clear hw0 h0 k3 k4 kt kc hS
 -- the box of what is turned by
 have k5:=h1.tab.c5
 have kr:=h1.tab.rows l hl
 rw [a5.out] at k5
 rw [ar.out l hl] at kr
 obtain ⟨yn,ya,yl,yk,ym,yb,yi,yj,y0,y1,y2,y3,hy⟩:=h1.tab.T l c hl hc
 obtain ⟨W1,hW1⟩:∃ W1,w0.alloc (.cells #[.bool yn,.slice ya yl yk,.bool ym,.slice yb yi yj] 71) = W1:=⟨_,rfl⟩
 have bx:Blk W1 w0.heap.size 71 #[.bool yn,.slice ya yl yk,.bool ym,.slice yb yi yj]:=by rw [← hW1]; exact Blk.new w0 _ _
 have sb1:Below w0.heap.size w0 W1:=by rw [← hW1]; exact (Below.refl w0.heap.size w0).alloc (Nat.le_refl _) _
 have hy1:=hy.below sb1 (Nat.le_refl _)
 have h2:=(h1.below sb1).push hN0 (FAt.of bx hy1)
 obtain ⟨gb,hgb⟩:∃ gb,w0.heap.size = gb:=⟨_,rfl⟩
 replace HW1:=hide hW1
 clear hW1 hy h1
 go_upto_region 2 with (fail)
 rw [HW1.out]
 have hN1:w.heap.size ≤ W1.heap.size:=Nat.le_trans hN0 sb1.size
 clear HW1 y0 y1 y2 y3 k5 kr sb1
 rw [hgb] at h2 bx
 clear hgb
 have k1:=h2.tab.c1
 have k0:=h2.tab.c0
 have k2:=h2.tab.c2
 rw [a1.out] at k1
 rw [a2.out] at k2
 obtain ⟨un,ua,ul,uk,um,ub,ui,uj,u0,u1,u2,u3,hu⟩:=h2.tab.most D hD
 obtain ⟨vn,va,vl,vk,vm,vb,vi,vj,v0,v1,v2,v3,hv⟩:=h2.tab.val O hOl
 obtain ⟨y0,y1,y2,y3,-⟩:=bx.c4
 have zv:Qz (t.val O):=(HZV.out O hOl).z (by decide)
 have zy:Qz (t.T l c):=(HZT.out l c hl hc).z (by decide)
 clear hN0 bx
 go_cut [9] from 45 to 67 (fun v9 wc=>∃ gs,v9 = .pointer (some ⟨gs,0,none⟩) ∧ TurnS w.heap.size B w S L (fun g q=>(False ∨ (g = gb ∧ q = t.T l c)) ∨ (g = gs ∧ q = st)) t wc)
 case first=>
  refine wp_region_till (S:=fun w'=>w'.cell? ⟨L.p,1,none⟩ = some (.slice (some ⟨L.gm,0,none⟩) S.m L.km) ∧ w'.cell? ⟨L.p,0,none⟩ = some (.int .i64 (S.n:Int)) ∧ w'.cell? ⟨L.p,2,none⟩ = some (.slice (some ⟨L.gv,0,none⟩) (S.n + S.m) L.kv) ∧ w'.cell? ⟨L.gm,D * 4,none⟩ = some (.bool un) ∧ w'.cell? ⟨L.gm,D * 4 + 1,none⟩ = some (.slice ua ul uk) ∧ w'.cell? ⟨L.gm,D * 4 + 2,none⟩ = some (.bool um) ∧ w'.cell? ⟨L.gm,D * 4 + 3,none⟩ = some (.slice ub ui uj) ∧ w'.cell? ⟨L.gv,O * 4,none⟩ = some (.bool vn) ∧ w'.cell? ⟨L.gv,O * 4 + 1,none⟩ = some (.slice va vl vk) ∧ w'.cell? ⟨L.gv,O * 4 + 2,none⟩ = some (.bool vm) ∧ w'.cell? ⟨L.gv,O * 4 + 3,none⟩ = some (.slice vb vi vj) ∧ w'.cell? ⟨gb,0,none⟩ = some (.bool yn) ∧ w'.cell? ⟨gb,1,none⟩ = some (.slice ya yl yk) ∧ w'.cell? ⟨gb,2,none⟩ = some (.bool ym) ∧ w'.cell? ⟨gb,3,none⟩ = some (.slice yb yi yj) ∧ Below W1.heap.size W1 w') (fun i=>decide (i < 23)) (by kernel_rfl) (⟨k1,k0,k2,u0,u1,u2,u3,v0,v1,v2,v3,y0,y1,y2,y3,(Below.refl _ _).drew⟩) (fun hS=>?_)
  refine tkT 0 ⟨some 45,.move (.tmp 0),101,"simplex.go:143",#[],none⟩ hS ?_
  try simp only [Act.put,sB,sC,sD]
  refine tkT 1 ⟨some 46,.nilCheck (.tmp 45),0,"simplex.go:143",#[eD 0],none⟩ hS ?_
  try simp only [Act.put,sB,sC,sD]
  refine tkT 2 ⟨some 47,.fieldAddr 108 (.tmp 46) 1,0,"simplex.go:143",#[eD 1],none⟩ hS ?_
  try simp only [Act.put,sB,sC,sD]
  refine tkT 3 ⟨some 48,.load 61 (.tmp 47),61,"simplex.go:143",#[eD 2],none⟩ hS ?_
  try simp only [Act.put,sB,sC,sD]
  refine tkT 4 ⟨some 49,.move (.tmp 6),3,"simplex.go:143",#[],none⟩ hS ?_
  try simp only [Act.put,sB,sC,sD]
  refine tkT 5 ⟨some 50,.move (.tmp 0),101,"simplex.go:143",#[],none⟩ hS ?_
  try simp only [Act.put,sB,sC,sD]
  refine tkT 6 ⟨some 51,.nilCheck (.tmp 50),0,"simplex.go:143",#[eD 5],none⟩ hS ?_
  try simp only [Act.put,sB,sC,sD]
  refine tkT 7 ⟨some 52,.fieldAddr 108 (.tmp 51) 0,0,"simplex.go:143",#[eD 6],none⟩ hS ?_
  try simp only [Act.put,sB,sC,sD]
  refine tkT 8 ⟨some 53,.load 3 (.tmp 52),3,"simplex.go:143",#[eD 7],none⟩ hS ?_
  try simp only [Act.put,sB,sC,sD]
  refine tkT 9 ⟨some 54,.binOp .sub 3 (.tmp 49) (.tmp 53) 3,3,"simplex.go:143",#[eD 4,eD 8],none⟩ hS ?_
  try simp only [Act.put,sB,sC,sD]
  refine tkT 10 ⟨some 55,.indexAddr 61 (.tmp 48) (.tmp 54),0,"simplex.go:143",#[eD 3,eD 9],none⟩ hS ?_
  try simp only [Act.put,sB,sC,sD]
  refine tkT 11 ⟨some 56,.load 71 (.tmp 55),71,"simplex.go:143",#[eD 10],none⟩ hS ?_
  try simp only [Act.put,sB,sC,sD]
  refine tkT 12 ⟨some 57,.move (.tmp 0),101,"simplex.go:143",#[],none⟩ hS ?_
  try simp only [Act.put,sB,sC,sD]
  refine tkT 13 ⟨some 58,.nilCheck (.tmp 57),0,"simplex.go:143",#[eD 12],none⟩ hS ?_
  try simp only [Act.put,sB,sC,sD]
  refine tkT 14 ⟨some 59,.fieldAddr 108 (.tmp 58) 2,0,"simplex.go:143",#[eD 13],none⟩ hS ?_
  try simp only [Act.put,sB,sC,sD]
  refine tkT 15 ⟨some 60,.load 61 (.tmp 59),61,"simplex.go:143",#[eD 14],none⟩ hS ?_
  try simp only [Act.put,sB,sC,sD]
  refine tkT 16 ⟨some 61,.move (.tmp 6),3,"simplex.go:143",#[],none⟩ hS ?_
  try simp only [Act.put,sB,sC,sD]
  refine tkT 17 ⟨some 62,.indexAddr 61 (.tmp 60) (.tmp 61),0,"simplex.go:143",#[eD 15,eD 16],none⟩ hS ?_
  try simp only [Act.put,sB,sC,sD]
  refine tkT 18 ⟨some 63,.load 71 (.tmp 62),71,"simplex.go:143",#[eD 17],none⟩ hS ?_
  try simp only [Act.put,sB,sC,sD]
  refine tkT 20 ⟨some 65,.load 71 (.tmp 8),71,"simplex.go:143",#[],none⟩ hS ?_
  try simp only [Act.put,sB,sC,sD]
  refine Till_ready (rs:=[19,22]) (by kernel_rfl) (by kernel_rfl) (by simp) ?_
  refine AllReadyT.cons (o:=⟨some 64,.call { callee:=.value (.func 78),args:=#[.tmp 56,.tmp 63],argTypes:=#[71,71] },71,"simplex.go:143",#[eD 11,eD 18],none⟩) rfl (fun K hK=>?_) (AllReadyT.cons (o:=⟨some 9,.alloc 71,0,"simplex.go:143",#[],none⟩) rfl (fun K hK=>?_) AllReadyT.nil)
  ·go_simp
   (go_at_call 78; (with_reducible refine (less_any _ (hu.below (hS.2.2.2.2.2.2.2.2.2.2.2.2.2.2.2) (Nat.le_refl _)) (hv.below (hS.2.2.2.2.2.2.2.2.2.2.2.2.2.2.2) (Nat.le_refl _)) zm zv).mono ?_); rintro e wA ⟨rA,rfl,hA,hb1⟩)
   go_wp2_with fail
   refine hK.out _ _ (keepZ15 hS hb1) (fun hS=>?_)
   clear hK K
   try simp only [Act.put,sB,sC,sD]
   clear hb1
   refine Till_ready (rs:=[21,22]) (by kernel_rfl) (by kernel_rfl) (by simp) ?_
   refine AllReadyT.cons (o:=⟨some 66,.call { callee:=.value (.func 77),args:=#[.tmp 64,.tmp 65],argTypes:=#[71,71] },71,"simplex.go:143",#[eD 19,eD 20,eC 19],none⟩) rfl (fun K hK=>?_) (AllReadyT.cons (o:=⟨some 9,.alloc 71,0,"simplex.go:143",#[],none⟩) rfl (fun K hK=>?_) AllReadyT.nil)
   ·go_simp
    (go_at_call 77; (with_reducible refine (FDiv_any _ hA (hy1.below (hS.2.2.2.2.2.2.2.2.2.2.2.2.2.2.2) (Nat.le_refl _)) zd zy).mono ?_); rintro e wC ⟨rC,rfl,hC,hb1⟩)
    obtain ⟨xn,xa,xl,xk,xm,xb,xi,xj,rfl,-,-⟩:=FracV.parts hC
    rw [HST.out] at hC
    go_wp2_with fail
    refine hK.out _ _ (keepZ15 hS hb1) (fun hS=>?_)
    clear hK K
    try simp only [Act.put,sB,sC,sD]
    clear hb1
    have hB9:=(hS.2.2.2.2.2.2.2.2.2.2.2.2.2.2.2)
    have hb9:Below wC.heap.size wC (wC.alloc (.cells #[.bool xn,.slice xa xl xk,.bool xm,.slice xb xi xj] 71)):=(Below.refl _ _).alloc (Nat.le_refl _) _
    refine Till_ready (rs:=[22]) (by kernel_rfl) (by kernel_rfl) (by simp) ?_
    refine AllReadyT.cons (o:=⟨some 9,.alloc 71,0,"simplex.go:143",#[],none⟩) rfl (fun K hK=>?_) AllReadyT.nil
    go_simp
    have hgs:W1.heap.size ≤ wC.heap.size:=(hS.2.2.2.2.2.2.2.2.2.2.2.2.2.2.2).size
    have bs:Blk (wC.alloc (.cells #[.bool false,.slice none 0 0,.bool false,.slice none 0 0] 71)) wC.heap.size 71 #[.bool false,.slice none 0 0,.bool false,.slice none 0 0]:=Blk.new wC _ _
    have hb1:Below wC.heap.size wC (wC.alloc (.cells #[.bool false,.slice none 0 0,.bool false,.slice none 0 0] 71)):=(Below.refl _ _).alloc (Nat.le_refl _) _
    refine hK.out _ _ (keepZ15 hS hb1) (fun hS=>?_)
    clear hK K
    try simp only [Act.put,sB,sC,sD]
    clear hb1
    refine Till_turn (by kernel_rfl) ?_
    refine wpAnyH_ready (rs:=[23]) (by kernel_rfl) (by simp) ?_
    refine AllReadyH.cons (o:=⟨none,.store 71 (.tmp 9) (.tmp 66),0,"simplex.go:143",#[eD 22,eD 21,eC 21,eP 0,eP 1,eP 2,eP 3,eP 4,eP 5,eP 6,eP 7,eP 8,eP 9,eP 10,eP 11,eP 12,eP 13,eP 14,eP 15,eP 16,eP 17,eP 18,eP 19,eP 20,eP 21,eP 22],none⟩) rfl (fun K hK=>?_) AllReadyH.nil
    obtain ⟨z0,z1,z2,z3,zf⟩:=bs.c4
    have f0:=zf 0
    have f1:=zf 1
    have f2:=zf 2
    have f3:=zf 3
    clear zf
    go_simp
    refine hK.out _ _ trivial (fun _=>?_)
    clear hK K z0 z1 z2 z3 f0 f1 f2 f3
    try simp only [Act.put,sB,sC,sD]
    refine wpAnyH_done (by kernel_rfl) ?_ _
    go_wp2_with fail
    go_meet
    exact ⟨_,rfl,(h2.below (hB9.trans (hb9.mono hB9.size))).push (Nat.le_trans hN1 hgs) (FAt.of (Blk.new wC _ _) (hC.below hb9 (Nat.le_refl _)))⟩
   ·go_simp
    have hgs:W1.heap.size ≤ wA.heap.size:=(hS.2.2.2.2.2.2.2.2.2.2.2.2.2.2.2).size
    have bs:Blk (wA.alloc (.cells #[.bool false,.slice none 0 0,.bool false,.slice none 0 0] 71)) wA.heap.size 71 #[.bool false,.slice none 0 0,.bool false,.slice none 0 0]:=Blk.new wA _ _
    have hb1:Below wA.heap.size wA (wA.alloc (.cells #[.bool false,.slice none 0 0,.bool false,.slice none 0 0] 71)):=(Below.refl _ _).alloc (Nat.le_refl _) _
    refine hK.out _ _ (keepZ15 hS hb1) (fun hS=>?_)
    clear hK K
    try simp only [Act.put,sB,sC,sD]
    replace hA:=hA.below hb1 (Nat.le_refl _)
    clear hb1
    refine Till_ready (rs:=[21]) (by kernel_rfl) (by kernel_rfl) (by simp) ?_
    refine AllReadyT.cons (o:=⟨some 66,.call { callee:=.value (.func 77),args:=#[.tmp 64,.tmp 65],argTypes:=#[71,71] },71,"simplex.go:143",#[eD 19,eD 20,eC 19],none⟩) rfl (fun K hK=>?_) AllReadyT.nil
    go_simp
    (go_at_call 77; (with_reducible refine (FDiv_any _ hA (hy1.below (hS.2.2.2.2.2.2.2.2.2.2.2.2.2.2.2) (Nat.le_refl _)) zd zy).mono ?_); rintro e wC ⟨rC,rfl,hC,hb1⟩)
    obtain ⟨xn,xa,xl,xk,xm,xb,xi,xj,rfl,-,-⟩:=FracV.parts hC
    rw [HST.out] at hC
    go_wp2_with fail
    refine hK.out _ _ (keepZ15 hS hb1) (fun hS=>?_)
    clear hK K
    try simp only [Act.put,sB,sC,sD]
    replace bs:=bs.below hb1 bs.lt
    clear hb1
    refine Till_turn (by kernel_rfl) ?_
    refine wpAnyH_ready (rs:=[23]) (by kernel_rfl) (by simp) ?_
    refine AllReadyH.cons (o:=⟨none,.store 71 (.tmp 9) (.tmp 66),0,"simplex.go:143",#[eD 22,eD 21,eC 21,eP 0,eP 1,eP 2,eP 3,eP 4,eP 5,eP 6,eP 7,eP 8,eP 9,eP 10,eP 11,eP 12,eP 13,eP 14,eP 15,eP 16,eP 17,eP 18,eP 19,eP 20,eP 21,eP 22],none⟩) rfl (fun K hK=>?_) AllReadyH.nil
    obtain ⟨z0,z1,z2,z3,zf⟩:=bs.c4
    have f0:=zf 0
    have f1:=zf 1
    have f2:=zf 2
    have f3:=zf 3
    clear zf
    go_simp
    refine hK.out _ _ trivial (fun _=>?_)
    clear hK K z0 z1 z2 z3 f0 f1 f2 f3
    try simp only [Act.put,sB,sC,sD]
    refine wpAnyH_done (by kernel_rfl) ?_ _
    go_wp2_with fail
    go_meet
    exact ⟨_,rfl,(h2.below (below_put4 (hS.2.2.2.2.2.2.2.2.2.2.2.2.2.2.2) hgs (.bool xn) (.slice xa xl xk) (.bool xm) (.slice xb xi xj))).push (Nat.le_trans hN1 hgs) (FAt.put4_at hC (FAt.of bs (FracV.zero _)))⟩
  ·go_simp
   have hgs:W1.heap.size ≤ W1.drew.heap.size:=(hS.2.2.2.2.2.2.2.2.2.2.2.2.2.2.2).size
   have bs:Blk (W1.drew.alloc (.cells #[.bool false,.slice none 0 0,.bool false,.slice none 0 0] 71)) W1.heap.size 71 #[.bool false,.slice none 0 0,.bool false,.slice none 0 0]:=Blk.new W1.drew _ _
   have hb1:Below W1.drew.heap.size W1.drew (W1.drew.alloc (.cells #[.bool false,.slice none 0 0,.bool false,.slice none 0 0] 71)):=(Below.refl _ _).alloc (Nat.le_refl _) _
   refine hK.out _ _ (keepZ15 hS hb1) (fun hS=>?_)
   clear hK K
   try simp only [Act.put,sB,sC,sD]
   clear hb1
   refine Till_ready (rs:=[19]) (by kernel_rfl) (by kernel_rfl) (by simp) ?_
   refine AllReadyT.cons (o:=⟨some 64,.call { callee:=.value (.func 78),args:=#[.tmp 56,.tmp 63],argTypes:=#[71,71] },71,"simplex.go:143",#[eD 11,eD 18],none⟩) rfl (fun K hK=>?_) AllReadyT.nil
   go_simp
   (go_at_call 78; (with_reducible refine (less_any _ (hu.below (hS.2.2.2.2.2.2.2.2.2.2.2.2.2.2.2) (Nat.le_refl _)) (hv.below (hS.2.2.2.2.2.2.2.2.2.2.2.2.2.2.2) (Nat.le_refl _)) zm zv).mono ?_); rintro e wA ⟨rA,rfl,hA,hb1⟩)
   go_wp2_with fail
   refine hK.out _ _ (keepZ15 hS hb1) (fun hS=>?_)
   clear hK K
   try simp only [Act.put,sB,sC,sD]
   replace bs:=bs.below hb1 bs.lt
   clear hb1
   refine Till_ready (rs:=[21]) (by kernel_rfl) (by kernel_rfl) (by simp) ?_
   refine AllReadyT.cons (o:=⟨some 66,.call { callee:=.value (.func 77),args:=#[.tmp 64,.tmp 65],argTypes:=#[71,71] },71,"simplex.go:143",#[eD 19,eD 20,eC 19],none⟩) rfl (fun K hK=>?_) AllReadyT.nil
   go_simp
   (go_at_call 77; (with_reducible refine (FDiv_any _ hA (hy1.below (hS.2.2.2.2.2.2.2.2.2.2.2.2.2.2.2) (Nat.le_refl _)) zd zy).mono ?_); rintro e wC ⟨rC,rfl,hC,hb1⟩)
   obtain ⟨xn,xa,xl,xk,xm,xb,xi,xj,rfl,-,-⟩:=FracV.parts hC
   rw [HST.out] at hC
   go_wp2_with fail
   refine hK.out _ _ (keepZ15 hS hb1) (fun hS=>?_)
   clear hK K
   try simp only [Act.put,sB,sC,sD]
   replace bs:=bs.below hb1 bs.lt
   clear hb1
   refine Till_turn (by kernel_rfl) ?_
   refine wpAnyH_ready (rs:=[23]) (by kernel_rfl) (by simp) ?_
   refine AllReadyH.cons (o:=⟨none,.store 71 (.tmp 9) (.tmp 66),0,"simplex.go:143",#[eD 22,eD 21,eC 21,eP 0,eP 1,eP 2,eP 3,eP 4,eP 5,eP 6,eP 7,eP 8,eP 9,eP 10,eP 11,eP 12,eP 13,eP 14,eP 15,eP 16,eP 17,eP 18,eP 19,eP 20,eP 21,eP 22],none⟩) rfl (fun K hK=>?_) AllReadyH.nil
   obtain ⟨z0,z1,z2,z3,zf⟩:=bs.c4
   have f0:=zf 0
   have f1:=zf 1
   have f2:=zf 2
   have f3:=zf 3
   clear zf
   go_simp
   refine hK.out _ _ trivial (fun _=>?_)
   clear hK K z0 z1 z2 z3 f0 f1 f2 f3
   try simp only [Act.put,sB,sC,sD]
   refine wpAnyH_done (by kernel_rfl) ?_ _
   go_wp2_with fail
   go_meet
   exact ⟨_,rfl,(h2.below (below_put4 (hS.2.2.2.2.2.2.2.2.2.2.2.2.2.2.2) hgs (.bool xn) (.slice xa xl xk) (.bool xm) (.slice xb xi xj))).push (Nat.le_trans hN1 hgs) (FAt.put4_at hC (FAt.of bs (FracV.zero _)))⟩
 case rest=>
  clear k0 k1 k2 u0 u1 u2 u3 v0 v1 v2 v3 y0 y1 y2 y3 hu hv hy1 h2 hN1 zv e4 e5 e6 e7 zm zd
  obtain ⟨gs,rfl,h3⟩:=hcut
  obtain ⟨P,h3,hpb,hps⟩:∃ P:Nat → Rat → Prop,TurnS w.heap.size B w S L P t wc ∧ P gb (t.T l c) ∧ P gs st:=⟨_,h3,.inl (.inr ⟨rfl,rfl⟩),.inr ⟨rfl,rfl⟩⟩
  have k3:=h3.tab.c3
  rw [a3.out] at k3
  go_wp2_with fail
  clear k3
  go_loopg [72] S.m (fun k v72 wr=>∃ j:Nat,j + k = S.m ∧ v72 = .int .i64 (j:Int) ∧ TurnS w.heap.size B w S L P { t with val:=stepV t c st j } wr)
  case atStart=>exact ⟨0,by omega,rfl,h3.congr rfl rfl rfl (fun _ _ _ _=>rfl)⟩
  case round=>
   clear h3
   obtain ⟨j,hjk,rfl,h4⟩:=hrel
   rcases Nat.eq_zero_or_pos gk with h0 | h0
   ·subst h0
    obtain rfl:j = S.m:=by omega
    have k2:=h4.tab.c2
    rw [a2.out] at k2
    obtain ⟨vn,va,vl,vk,vm,vb,vi,vj,v0,v1,v2,v3,hv⟩:FAt wr L.gv (I * 4) (stepV t c st S.m I):=h4.tab.val I hIl
    have zv:Qz (stepV t c st S.m I):=by
     rw [stepV_else t c st _ S.m (fun l' h' he=>hi.at'.apart l' c h' hc (he.trans HI.out.symm))]
     exact (HZV.out _ hIl).z (by decide)
    obtain ⟨qn,qa,ql,qk,qm,qb,qi,qj,q0,q1,q2,q3,hq⟩:=(h4.box gs st hps).2.box
    go_upto_region 10 with (fail)
    refine wp_region_till (S:=fun w'=>w'.cell? ⟨L.p,2,none⟩ = some (.slice (some ⟨L.gv,0,none⟩) (S.n + S.m) L.kv) ∧ w'.cell? ⟨L.gv,I * 4,none⟩ = some (.bool vn) ∧ w'.cell? ⟨L.gv,I * 4 + 1,none⟩ = some (.slice va vl vk) ∧ w'.cell? ⟨L.gv,I * 4 + 2,none⟩ = some (.bool vm) ∧ w'.cell? ⟨L.gv,I * 4 + 3,none⟩ = some (.slice vb vi vj) ∧ w'.cell? ⟨gs,0,none⟩ = some (.bool qn) ∧ w'.cell? ⟨gs,1,none⟩ = some (.slice qa ql qk) ∧ w'.cell? ⟨gs,2,none⟩ = some (.bool qm) ∧ w'.cell? ⟨gs,3,none⟩ = some (.slice qb qi qj) ∧ Below wr.heap.size wr w') (fun i=>decide (i < 14)) (by kernel_rfl) (⟨k2,v0,v1,v2,v3,q0,q1,q2,q3,(Below.refl _ _).drew⟩) (fun hS=>?_)
    refine tkT 0 ⟨some 108,.move (.tmp 0),101,"simplex.go:149",#[],none⟩ hS ?_
    try simp only [Act.put,sB,sC,sD]
    refine tkT 1 ⟨some 109,.nilCheck (.tmp 108),0,"simplex.go:149",#[eD 0],none⟩ hS ?_
    try simp only [Act.put,sB,sC,sD]
    refine tkT 2 ⟨some 110,.fieldAddr 108 (.tmp 109) 2,0,"simplex.go:149",#[eD 1],none⟩ hS ?_
    try simp only [Act.put,sB,sC,sD]
    refine tkT 3 ⟨some 111,.load 61 (.tmp 110),61,"simplex.go:149",#[eD 2],none⟩ hS ?_
    try simp only [Act.put,sB,sC,sD]
    refine tkT 4 ⟨some 112,.move (.tmp 7),3,"simplex.go:149",#[],none⟩ hS ?_
    try simp only [Act.put,sB,sC,sD]
    refine tkT 5 ⟨some 113,.move (.tmp 0),101,"simplex.go:149",#[],none⟩ hS ?_
    try simp only [Act.put,sB,sC,sD]
    refine tkT 6 ⟨some 114,.nilCheck (.tmp 113),0,"simplex.go:149",#[eD 5],none⟩ hS ?_
    try simp only [Act.put,sB,sC,sD]
    refine tkT 7 ⟨some 115,.fieldAddr 108 (.tmp 114) 2,0,"simplex.go:149",#[eD 6],none⟩ hS ?_
    try simp only [Act.put,sB,sC,sD]
    refine tkT 8 ⟨some 116,.load 61 (.tmp 115),61,"simplex.go:149",#[eD 7],none⟩ hS ?_
    try simp only [Act.put,sB,sC,sD]
    refine tkT 9 ⟨some 117,.move (.tmp 7),3,"simplex.go:149",#[],none⟩ hS ?_
    try simp only [Act.put,sB,sC,sD]
    refine tkT 10 ⟨some 118,.indexAddr 61 (.tmp 116) (.tmp 117),0,"simplex.go:149",#[eD 8,eD 9],none⟩ hS ?_
    try simp only [Act.put,sB,sC,sD]
    refine tkT 11 ⟨some 119,.load 71 (.tmp 118),71,"simplex.go:149",#[eD 10],none⟩ hS ?_
    try simp only [Act.put,sB,sC,sD]
    refine tkT 12 ⟨some 120,.load 71 (.tmp 9),71,"simplex.go:149",#[],none⟩ hS ?_
    try simp only [Act.put,sB,sC,sD]
    refine Till_ready (rs:=[13]) (by kernel_rfl) (by kernel_rfl) (by simp) ?_
    refine AllReadyT.cons (o:=⟨some 121,.call { callee:=.value (.func 79),args:=#[.tmp 119,.tmp 120],argTypes:=#[71,71] },71,"simplex.go:149",#[eD 11,eD 12],none⟩) rfl (fun K hK=>?_) AllReadyT.nil
    go_simp
    (go_at_call 79; (with_reducible refine (FAdd_any _ (hv.below (hS.2.2.2.2.2.2.2.2.2) (Nat.le_refl _)) (hq.below (hS.2.2.2.2.2.2.2.2.2) (Nat.le_refl _)) zv zst).mono ?_); rintro e wN ⟨rN,rfl,hN,hb1⟩)
    obtain ⟨un,ua,ul,uk,um,ub,ui,uj,rfl,-,-⟩:=FracV.parts hN
    go_wp2_with fail
    refine hK.out _ _ (keepZ9 hS hb1) (fun hS=>?_)
    clear hK K hb1
    try simp only [Act.put,sB,sC,sD]
    refine Till_turn (by kernel_rfl) ?_
    refine tkH 14 ⟨some 122,.indexAddr 61 (.tmp 111) (.tmp 112),0,"simplex.go:149",#[eD 3,eD 4,eP 0,eP 1,eP 2,eP 3,eP 4,eP 5,eP 6,eP 7,eP 8,eP 9,eP 10,eP 11,eP 12,eP 13],none⟩ trivial ?_
    try simp only [Act.put,sB,sC,sD]
    refine wpAnyH_ready (rs:=[15]) (by kernel_rfl) (by simp) ?_
    refine AllReadyH.cons (o:=⟨none,.store 71 (.tmp 122) (.tmp 121),0,"simplex.go:149",#[eD 14,eD 13,eC 13,eP 0,eP 1,eP 2,eP 3,eP 4,eP 5,eP 6,eP 7,eP 8,eP 9,eP 10,eP 11,eP 12,eP 13],none⟩) rfl (fun K hK=>?_) AllReadyH.nil
    have h7:=h4.below (hS.2.2.2.2.2.2.2.2.2)
    obtain ⟨_,_,_,_,_,_,_,_,z0,z1,z2,z3,-⟩:=h7.tab.val I hIl
    have f0:=h7.mem.fv (I * 4)
    have f1:=h7.mem.fv (I * 4 + 1)
    have f2:=h7.mem.fv (I * 4 + 2)
    have f3:=h7.mem.fv (I * 4 + 3)
    obtain ⟨W3,hW3⟩:∃ W3,put4 wN L.gv (I * 4) (.bool un) (.slice ua ul uk) (.bool um) (.slice ub ui uj) = W3:=⟨_,rfl⟩
    have h8:TurnS w.heap.size B w S L P { t with val:=U.val } W3:=by rw [← hW3,← HUV.out]; exact h7.setVal hIl hN
    simp only [put4] at hW3
    have HW3:=hide hW3
    clear hW3
    go_simp
    refine hK.out _ _ trivial (fun _=>?_)
    clear hK K z0 z1 z2 z3 f0 f1 f2 f3
    try simp only [Act.put,sB,sC,sD]
    refine wpAnyH_done (by kernel_rfl) ?_ _
    rw [HW3.out]
    clear HW3 hS k2 v0 v1 v2 v3 q0 q1 q2 q3 hv hq h4 e8 zv h7
    -- the two change places
    have h9:=h8.drew
    have k3:=h9.tab.c3
    have k4:=h9.tab.c4
    rw [a3.out] at k3
    rw [a4.out] at k4
    go_upto_region 11 with (fail)
    refine wp_region_held_drew (S:=fun w'=>w'.cell? ⟨L.p,3,none⟩ = some (.slice (some ⟨L.gt,0,none⟩) S.m L.kt) ∧ w'.cell? ⟨L.p,4,none⟩ = some (.slice (some ⟨L.gc,0,none⟩) S.n L.kc)) (by kernel_rfl) (⟨k3,k4⟩) (fun hS=>?_)
    refine tkH 0 ⟨some 123,.move (.tmp 0),101,"simplex.go:150",#[],none⟩ hS ?_
    try simp only [Act.put,sB,sC,sD]
    refine tkH 1 ⟨some 124,.nilCheck (.tmp 123),0,"simplex.go:150",#[eD 0],none⟩ hS ?_
    try simp only [Act.put,sB,sC,sD]
    refine tkH 2 ⟨some 125,.fieldAddr 108 (.tmp 124) 3,0,"simplex.go:150",#[eD 1],none⟩ hS ?_
    try simp only [Act.put,sB,sC,sD]
    refine tkH 3 ⟨some 126,.load 26 (.tmp 125),26,"simplex.go:150",#[eD 2],none⟩ hS ?_
    try simp only [Act.put,sB,sC,sD]
    refine tkH 4 ⟨some 127,.move (.tmp 1),3,"simplex.go:150",#[],none⟩ hS ?_
    try simp only [Act.put,sB,sC,sD]
    refine tkH 5 ⟨some 128,.move (.tmp 0),101,"simplex.go:150",#[],none⟩ hS ?_
    try simp only [Act.put,sB,sC,sD]
    refine tkH 6 ⟨some 129,.nilCheck (.tmp 128),0,"simplex.go:150",#[eD 5],none⟩ hS ?_
    try simp only [Act.put,sB,sC,sD]
    refine tkH 7 ⟨some 130,.fieldAddr 108 (.tmp 129) 4,0,"simplex.go:150",#[eD 6],none⟩ hS ?_
    try simp only [Act.put,sB,sC,sD]
    refine tkH 8 ⟨some 131,.load 26 (.tmp 130),26,"simplex.go:150",#[eD 7],none⟩ hS ?_
    try simp only [Act.put,sB,sC,sD]
    refine tkH 9 ⟨some 132,.move (.tmp 2),3,"simplex.go:150",#[{ on:=13,ground:=Ground.gcOnly Departure.lateStores }],none⟩ hS ?_
    try simp only [Act.put,sB,sC,sD]
    refine tkH 10 ⟨some 133,.move (.tmp 7),3,"simplex.go:150",#[],none⟩ hS ?_
    try simp only [Act.put,sB,sC,sD]
    refine tkH 11 ⟨some 134,.move (.tmp 6),3,"simplex.go:150",#[{ on:=13,ground:=Ground.gcOnly Departure.lateStores }],none⟩ hS ?_
    try simp only [Act.put,sB,sC,sD]
    refine tkH 12 ⟨some 135,.indexAddr 26 (.tmp 126) (.tmp 127),0,"simplex.go:150",#[eD 3,eD 4,eP 0,eP 1,eP 2,eP 3,eP 4,{ on:=5,ground:=Ground.textOnly Departure.lateStores },{ on:=6,ground:=Ground.textOnly Departure.lateStoresUnsure },{ on:=7,ground:=Ground.textOnly Departure.lateStoresUnsure },eP 8,{ on:=9,ground:=Ground.textOnly Departure.lateStores },eP 10,{ on:=11,ground:=Ground.textOnly Departure.lateStores }],none⟩ hS ?_
    try simp only [Act.put,sB,sC,sD]
    refine wpAnyH_ready (rs:=[13]) (by kernel_rfl) (by simp) ?_
    refine AllReadyH.cons (o:=⟨none,.store 3 (.tmp 135) (.tmp 133),0,"simplex.go:150",#[eD 12,eD 10,eP 0,eP 1,eP 2,eP 3,eP 4,{ on:=5,ground:=Ground.textOnly Departure.lateStores },{ on:=6,ground:=Ground.textOnly Departure.lateStoresUnsure },{ on:=7,ground:=Ground.textOnly Departure.lateStoresUnsure },eP 8,{ on:=9,ground:=Ground.textOnly Departure.lateStores },eP 10,{ on:=11,ground:=Ground.textOnly Departure.lateStores }],none⟩) rfl (fun K hK=>?_) AllReadyH.nil
    have z0:=h8.tab.told l hl
    have f0:=h8.mem.ft l
    go_simp
    refine hK.out _ _ ⟨by show ((W3.setCell ⟨L.gt,l,none⟩ (.int .i64 (I:Int)))).cell? _ = _; rw [World.cell?_setCell_other _ _ _ _ (show (⟨L.gt,l,none⟩:Addr) ≠ ⟨L.p,3,none⟩ from fun e=>h8.mem.pt (by injection e with e1; exact e1.symm))]; exact hS.1,by show ((W3.setCell ⟨L.gt,l,none⟩ (.int .i64 (I:Int)))).cell? _ = _; rw [World.cell?_setCell_other _ _ _ _ (show (⟨L.gt,l,none⟩:Addr) ≠ ⟨L.p,4,none⟩ from fun e=>h8.mem.pt (by injection e with e1; exact e1.symm))]; exact hS.2⟩ (fun hS=>?_)
    clear hK K z0 f0
    try simp only [Act.put,sB,sC,sD]
    refine tkH 14 ⟨some 136,.indexAddr 26 (.tmp 131) (.tmp 132),0,"simplex.go:150",#[eD 8,eD 9,eP 0,eP 1,eP 2,eP 3,eP 4,eP 5,eP 6,eP 7,eP 8,eP 9,eP 10,eP 11,eP 12,eP 13],none⟩ hS ?_
    try simp only [Act.put,sB,sC,sD]
    refine wpAnyH_ready (rs:=[15]) (by kernel_rfl) (by simp) ?_
    refine AllReadyH.cons (o:=⟨none,.store 3 (.tmp 136) (.tmp 134),0,"simplex.go:150",#[eD 14,eD 11,eC 13,eP 0,eP 1,eP 2,eP 3,eP 4,eP 5,eP 6,eP 7,eP 8,eP 9,eP 10,eP 11,eP 12,eP 13],none⟩) rfl (fun K hK=>?_) AllReadyH.nil
    have h10:=h8.setTold (v:=I) hl
    have z0:=h10.tab.col c hc
    have f0:=h10.mem.fc c
    obtain ⟨W4,hW4⟩:∃ W4,((W3.setCell ⟨L.gt,l,none⟩ (.int .i64 (I:Int))).setCell ⟨L.gc,c,none⟩ (.int .i64 (O:Int))).drew = W4:=⟨_,rfl⟩
    have h12:TurnS w.heap.size B w S L P { U with T:=t.T } W4:=by rw [← hW4]; exact ((h10.setCol (v:=O) hc).congr (u:={ U with T:=t.T }) HUT.out.symm HUC.out.symm rfl (fun _ _ _ _=>rfl)).drew
    have HW4:=hide hW4
    clear hW4
    go_simp
    refine hK.out _ _ ⟨by show ((W3.setCell ⟨L.gt,l,none⟩ (.int .i64 (I:Int))).setCell ⟨L.gc,c,none⟩ (.int .i64 (O:Int))).cell? _ = _; rw [World.cell?_setCell_other _ _ _ _ (show (⟨L.gc,c,none⟩:Addr) ≠ ⟨L.p,3,none⟩ from fun e=>h8.mem.pc (by injection e with e1; exact e1.symm))]; exact hS.1,by show ((W3.setCell ⟨L.gt,l,none⟩ (.int .i64 (I:Int))).setCell ⟨L.gc,c,none⟩ (.int .i64 (O:Int))).cell? _ = _; rw [World.cell?_setCell_other _ _ _ _ (show (⟨L.gc,c,none⟩:Addr) ≠ ⟨L.p,4,none⟩ from fun e=>h8.mem.pc (by injection e with e1; exact e1.symm))]; exact hS.2⟩ (fun hS=>?_)
    clear hK K z0 f0
    try simp only [Act.put,sB,sC,sD]
    refine wpAnyH_done (by kernel_rfl) ?_ _
    rw [HW4.out]
    clear HW4 hS k3 k4 h8 h9 h10
    have k5:=h12.tab.c5
    have kr:=h12.tab.rows l hl
    rw [a5.out] at k5
    rw [ar.out l hl] at kr
    go_wp2_with fail
    clear k5 kr
    go_loopg [146] S.n (fun k v146 wr=>∃ j:Nat,j + k = S.n ∧ v146 = .int .i64 (j:Int) ∧ TurnS w.heap.size B w S L P { U with T:=mixT t.T U.T (fun l' c'=>l' = l ∧ c' < j ∧ c' ≠ c) } wr)
    case atStart=>exact ⟨0,by omega,rfl,h12.mix (fun l' c' _ _=>mixT_no (fun h=>absurd h.2.1 (Nat.not_lt_zero _)))⟩
    case round=>
     clear h12
     obtain ⟨j,hjk,rfl,h4⟩:=hrel
     rcases Nat.eq_zero_or_pos gk with h0 | h0
     ·subst h0
      obtain rfl:j = S.n:=by omega
      obtain ⟨yn,ya,yl,yk,ym,yb,yi,yj,y0,y1,y2,y3,hy⟩:=(h4.box gb _ hpb).2.box
      have HE:Hid (1 / t.T l c = U.T l c):=hide (by rw [HUP.out,pivT_one])
      have z1q:Qz (1:Rat):=Qn.one.z (by decide)
      go_upto_region 19 with (fail)
      refine wp_region_till (S:=fun w'=>w'.cell? ⟨gb,0,none⟩ = some (.bool yn) ∧ w'.cell? ⟨gb,1,none⟩ = some (.slice ya yl yk) ∧ w'.cell? ⟨gb,2,none⟩ = some (.bool ym) ∧ w'.cell? ⟨gb,3,none⟩ = some (.slice yb yi yj) ∧ Below wr.heap.size wr w') (fun i=>decide (i < 6)) (by kernel_rfl) (⟨y0,y1,y2,y3,(Below.refl _ _).drew⟩) (fun hS=>?_)
      refine tkT 0 ⟨some 167,.move (.tmp 13),61,"simplex.go:157",#[],none⟩ hS ?_
      try simp only [Act.put,sB,sC,sD]
      refine tkT 1 ⟨some 168,.move (.tmp 2),3,"simplex.go:157",#[],none⟩ hS ?_
      try simp only [Act.put,sB,sC,sD]
      refine tkT 4 ⟨some 171,.load 71 (.tmp 8),71,"simplex.go:157",#[],none⟩ hS ?_
      try simp only [Act.put,sB,sC,sD]
      refine Till_ready (rs:=[2]) (by kernel_rfl) (by kernel_rfl) (by simp) ?_
      refine AllReadyT.cons (o:=⟨some 169,.call { callee:=.value (.func 21),args:=#[.const (.int .i64 1)],argTypes:=#[2] },38,"simplex.go:157",#[],none⟩) rfl (fun K hK=>?_) AllReadyT.nil
      go_simp
      (go_at_call 21; (with_reducible refine (Of_any 1 _ (by decide) (by decide)).mono ?_); rintro e wA ⟨rA,rfl,hA,hb1⟩)
      go_wp2_with fail
      refine hK.out _ _ (keepZ4 hS hb1) (fun hS=>?_)
      clear hK K hb1
      try simp only [Act.put,sB,sC,sD]
      refine Till_ready (rs:=[3]) (by kernel_rfl) (by kernel_rfl) (by simp) ?_
      refine AllReadyT.cons (o:=⟨some 170,.call { callee:=.value (.func 49),args:=#[.tmp 169],argTypes:=#[38] },71,"simplex.go:157",#[eD 2,eC 2],none⟩) rfl (fun K hK=>?_) AllReadyT.nil
      go_simp
      (go_at_call 49; (with_reducible refine (FOf2_any _ hA (sm_small (by decide))).mono ?_); rintro e wC ⟨rC,rfl,hC,hb1⟩)
      replace hC:FracV wC rC (1:Rat):=hC
      go_wp2_with fail
      refine hK.out _ _ (keepZ4 hS hb1) (fun hS=>?_)
      clear hK K hb1
      try simp only [Act.put,sB,sC,sD]
      refine Till_ready (rs:=[5]) (by kernel_rfl) (by kernel_rfl) (by simp) ?_
      refine AllReadyT.cons (o:=⟨some 172,.call { callee:=.value (.func 77),args:=#[.tmp 170,.tmp 171],argTypes:=#[71,71] },71,"simplex.go:157",#[eD 3,eD 4,eC 3],none⟩) rfl (fun K hK=>?_) AllReadyT.nil
      go_simp
      (go_at_call 77; (with_reducible refine (FDiv_any _ hC (hy.below (hS.2.2.2.2) (Nat.le_refl _)) z1q ((HZT.out l c hl hc).z (by decide))).mono ?_); rintro e wN ⟨rN,rfl,hN,hb1⟩)
      obtain ⟨un,ua,ul,uk,um,ub,ui,uj,rfl,-,-⟩:=FracV.parts hN
      rw [HE.out] at hN
      go_wp2_with fail
      refine hK.out _ _ (keepZ4 hS hb1) (fun hS=>?_)
      clear hK K hb1
      try simp only [Act.put,sB,sC,sD]
      refine Till_turn (by kernel_rfl) ?_
      refine tkH 6 ⟨some 173,.indexAddr 61 (.tmp 167) (.tmp 168),0,"simplex.go:157",#[eD 0,eD 1,eP 0,eP 1,eP 2,eP 3,eP 4,eP 5],none⟩ trivial ?_
      try simp only [Act.put,sB,sC,sD]
      refine wpAnyH_ready (rs:=[7]) (by kernel_rfl) (by simp) ?_
      refine AllReadyH.cons (o:=⟨none,.store 71 (.tmp 173) (.tmp 172),0,"simplex.go:157",#[eD 6,eD 5,eC 5,eP 0,eP 1,eP 2,eP 3,eP 4,eP 5],none⟩) rfl (fun K hK=>?_) AllReadyH.nil
      have h7:=h4.below (hS.2.2.2.2)
      obtain ⟨_,_,_,_,_,_,_,_,z0,z1,z2,z3,-⟩:=h7.tab.T l c hl hc
      have f0:=h7.mem.fr l hl (c * 4)
      have f1:=h7.mem.fr l hl (c * 4 + 1)
      have f2:=h7.mem.fr l hl (c * 4 + 2)
      have f3:=h7.mem.fr l hl (c * 4 + 3)
      obtain ⟨W3,hW3⟩:∃ W3,put4 wN (L.row l) (c * 4) (.bool un) (.slice ua ul uk) (.bool um) (.slice ub ui uj) = W3:=⟨_,rfl⟩
      have h8:TurnS w.heap.size B w S L P { U with T:=mixT t.T U.T (fun l' c'=>l' = l ∧ c' < S.n) } W3:=by rw [← hW3]; exact TurnS.mix (h7.setT hl hc hN) (fun l' c' _ _=>mixT_set (fun l' c'=>by show (l' = l ∧ c' < S.n) ↔ ((l' = l ∧ c' < S.n ∧ c' ≠ c) ∨ (l' = l ∧ c' = c)); omega) l' c')
      simp only [put4] at hW3
      have HW3:=hide hW3
      clear hW3
      go_simp
      refine hK.out _ _ trivial (fun _=>?_)
      clear hK K z0 z1 z2 z3 f0 f1 f2 f3
      try simp only [Act.put,sB,sC,sD]
      refine wpAnyH_done (by kernel_rfl) ?_ _
      rw [HW3.out]
      clear HW3 hS y0 y1 y2 y3 hy h4 h7 HE
      have k5:=h8.tab.c5
      rw [a5.out] at k5
      go_wp2_with fail
      clear k5
      go_loopg [179] S.m (fun k v179 wr=>∃ j:Nat,j + k = S.m ∧ v179 = .int .i64 (j:Int) ∧ TurnS w.heap.size B w S L P { U with T:=mixT t.T U.T (fun l' c'=>(l' = l ∧ c' < S.n) ∨ (l' < j ∧ c' < S.n)) } wr)
      case atStart=>exact ⟨0,by omega,rfl,h8.mix (fun l' c' _ _=>mixT_grow (fun l' c' h=>.inl h) (fun l' c' h hn=>h.elim (fun h=>absurd h hn) (fun h=>absurd h.1 (Nat.not_lt_zero _))) l' c')⟩
      case round=>
       clear h8
       obtain ⟨j,hjk,rfl,h4⟩:=hrel
       rcases Nat.eq_zero_or_pos gk with h0 | h0
       ·subst h0
        obtain rfl:j = S.m:=by omega
        go_wp2_with fail
        refine ⟨rfl,.tuple #[],by simp [results,Try.results58,go_sem],?_⟩
        rw [← HP.out]
        have h9:TurnS w.heap.size B w S L P U wr:=h4.congr rfl rfl rfl (fun l' c' hl' hc'=>(mixT_yes (T:=t.T) (U:=U.T) (p:=fun l' c'=>(l' = l ∧ c' < S.n) ∨ (l' < S.m ∧ c' < S.n)) (.inr ⟨hl',hc'⟩)).symm)
        exact ⟨rfl,h9.tab,h9.mem,h9.bel⟩
       ·have hj:j < S.m:=by omega
        have k5:=h4.tab.c5
        have kr:=h4.tab.rows j hj
        rw [a5.out] at k5
        rw [ar.out j hj] at kr
        obtain ⟨X,hX⟩:∃ X,mixT t.T U.T (fun l' c'=>(l' = l ∧ c' < S.n) ∨ (l' < j ∧ c' < S.n)) j c = X:=⟨_,rfl⟩
        have e:=h4.tab.T j c hj hc
        change FAt _ _ _ (mixT t.T U.T (fun l' c'=>(l' = l ∧ c' < S.n) ∨ (l' < j ∧ c' < S.n)) j c) at e
        rw [hX] at e
        obtain ⟨xn,xa,xl,xk,xm,xb,xi,xj,x0,x1,x2,x3,hx⟩:=e
        replace hX:=hide hX
        obtain ⟨W2,hW2⟩:∃ W2,wr.alloc (.cells #[.bool xn,.slice xa xl xk,.bool xm,.slice xb xi xj] 71) = W2:=⟨_,rfl⟩
        have bx:Blk W2 wr.heap.size 71 #[.bool xn,.slice xa xl xk,.bool xm,.slice xb xi xj]:=by rw [← hW2]; exact Blk.new wr _ _
        have sb2:Below wr.heap.size wr W2:=by rw [← hW2]; exact (Below.refl wr.heap.size wr).alloc (Nat.le_refl _) _
        replace HW2:=hide hW2
        clear hW2
        have hx2:=hx.below sb2 (Nat.le_refl _)
        have hNw:w.heap.size ≤ wr.heap.size:=Nat.le_trans (h4.box gb _ hpb).1 (Nat.le_of_lt (h4.box gb _ hpb).2.lt)
        have h5:=h4.below sb2
        have ej:(j:Int) < (S.m:Int):=by omega
        clear hx
        go_upto_region 24 with (fail)
        rw [HW2.out]
        clear HW2 x0 x1 x2 x3 k5 kr
        obtain ⟨b0,b1,b2,b3,-⟩:=bx.c4
        by_cases hjl:j = l
        ·have e1:((j:Int) == (l:Int)) = true:=by simp [hjl]
         have e2:((j:Int) != (l:Int)) = false:=by simp [hjl]
         replace hjl:=hide hjl
         go_wp2_with fail
         go_roundg (gk - 1)
         case measure=>omega
         case rel=>
          have h7:=hjl.out
          exact ⟨j + 1,by omega,by go_num,h5.mix (fun l' c' _ _=>mixT_grow (fun l' c' h=>by omega) (fun l' c' h hn=>by omega) l' c')⟩
        ·have e1:((j:Int) == (l:Int)) = false:=beq_eq_false_iff_ne.2 (by omega)
         have e2:((j:Int) != (l:Int)) = true:=by simp [bne,e1]
         have e3:¬(j:Int) = (l:Int):=by omega
         obtain rfl:t.T j c = X:=by
          rw [← hX.out]
          exact (mixT_no (by omega)).symm
         have zx:Qz (t.T j c):=(HZT.out j c hj hc).z (by decide)
         obtain ⟨C,hC⟩:∃ C,ordQ (t.T j c) 0 = C:=⟨_,rfl⟩
         have HC:=hide hC
         clear hC
         replace hjl:=hide hjl
         go_wp2_with fail
         refine (sign_at hx2 zx HC.out).mono ?_
         rintro e w5 ⟨rfl,hb5⟩
         have h6:=h5.below hb5
         by_cases hT0:t.T j c = 0
         ·obtain rfl:C = 0:=HC.out.symm.trans (ordQ_00 hT0)
          have HE:Hid (∀ c',U.T j c' = t.T j c'):=hide (fun c'=>by
           rw [HUP.out]
           by_cases h:c' = c
           ·rw [h,pivT_col hjl.out,hT0]; grind
           ·rw [pivT_far hjl.out h,hT0]; grind)
          clear hT0 e1 e2 e3
          go_wp2_with fail
          go_roundg (gk - 1)
          case measure=>omega
          case rel=>
           exact ⟨j + 1,by omega,by go_num,h6.mix (fun l' c' _ _=>mixT_grow (fun l' c' h=>by omega) (fun l' c' h hn=>by
            have h8:l' = j:=by omega
            rw [h8]; exact HE.out c') l' c')⟩
         ·have f1:¬C = 0:=by rw [← HC.out]; exact ordQ_ne hT0
          have f2:(C != 0) = true:=by simp [f1]
          have f3:(C == 0) = false:=by simp [f1]
          obtain ⟨gq,hgq⟩:∃ gq,wr.heap.size = gq:=⟨_,rfl⟩
          rw [hgq] at bx hNw sb2 b0 b1 b2 b3 ⊢
          obtain ⟨P3,h7,hpb3,hpq,hsub⟩:∃ P3:Nat → Rat → Prop,TurnS w.heap.size B w S L P3 { U with T:=mixT t.T U.T (fun l' c'=>(l' = l ∧ c' < S.n) ∨ (l' < j ∧ c' < S.n)) } w5 ∧ P3 gb (t.T l c) ∧ P3 gq (t.T j c) ∧ (∀ g q,P g q → P3 g q):=
           ⟨_,h6.push (g:=gq) (q:=t.T j c) hNw ((FAt.of bx hx2).below hb5 (Nat.le_refl _)),.inl hpb,.inr ⟨rfl,rfl⟩,fun _ _ h=>.inl h⟩
          replace hsub:=hide hsub
          have HG:=hide hgq
          clear hgq hT0 b0 b1 b2 b3 bx hx2 h4 h5 h6 sb2 hb5
          go_wp2_with fail
          clear e1 e2 e3 f1 f2 f3
          obtain ⟨gk1,hK1⟩:∃ K1,K1 = gk:=⟨_,rfl⟩
          subst hK1
          go_loopg [198] S.n (fun k v198 wr=>∃ i:Nat,i + k = S.n ∧ v198 = .int .i64 (i:Int) ∧ TurnS w.heap.size B w S L P3 { U with T:=mixT t.T U.T (fun l' c'=>(l' = l ∧ c' < S.n) ∨ (l' < j ∧ c' < S.n) ∨ (l' = j ∧ c' < i)) } wr)
          case atStart=>exact ⟨0,by omega,rfl,h7.mix (fun l' c' _ _=>mixT_grow (fun l' c' h=>by omega) (fun l' c' h hn=>by omega) l' c')⟩
          case round=>
           clear h7
           obtain ⟨i,hik,rfl,h4⟩:=hrel
           rcases Nat.eq_zero_or_pos gk with h0 | h0
           ·subst h0
            obtain rfl:i = S.n:=by omega
            go_wp2_with fail
            go_roundg (gk1 - 1)
            case measure=>omega
            case rel=>
             exact ⟨j + 1,by omega,by go_num,(h4.sub hsub.out).mix (fun l' c' _ _=>mixT_grow (fun l' c' h=>by omega) (fun l' c' h hn=>by omega) l' c')⟩
           ·have hi':i < S.n:=by omega
            have e:=h4.tab.T l i hl hi'
            have e2:mixT t.T U.T (fun l' c'=>(l' = l ∧ c' < S.n) ∨ (l' < j ∧ c' < S.n) ∨ (l' = j ∧ c' < i)) l i = U.T l i:=mixT_yes (.inl ⟨rfl,hi'⟩)
            change FAt _ _ _ (mixT t.T U.T (fun l' c'=>(l' = l ∧ c' < S.n) ∨ (l' < j ∧ c' < S.n) ∨ (l' = j ∧ c' < i)) l i) at e
            rw [e2] at e
            clear e2
            have hjl2:=hjl.out
            have fz:FAt wr (L.row j) (i * 4) (t.T j i):=by
             have e:=h4.tab.T j i hj hi'
             have e2:mixT t.T U.T (fun l' c'=>(l' = l ∧ c' < S.n) ∨ (l' < j ∧ c' < S.n) ∨ (l' = j ∧ c' < i)) j i = t.T j i:=mixT_no (by omega)
             change FAt _ _ _ (mixT t.T U.T (fun l' c'=>(l' = l ∧ c' < S.n) ∨ (l' < j ∧ c' < S.n) ∨ (l' = j ∧ c' < i)) j i) at e
             rw [e2] at e
             exact e
            clear hjl2
            obtain ⟨yn,ya,yl,yk,ym,yb,yi,yj,y0,y1,y2,y3,hy⟩:=e
            obtain ⟨xn,xa,xl,xk,xm,xb,xi,xj,x0,x1,x2,x3,hx⟩:=(h4.box gq _ hpq).2.box
            have qy:Qn 20000000 (U.T l i):=by rw [HUP.out]; exact pivT_row_size (HZT.out l i hl hi') (HZT.out l c hl hc) (by decide)
            have zy:Qz (U.T l i):=qy.z (by decide)
            have zx:Qz (t.T j c):=(HZT.out j c hj hc).z (by decide)
            have zxy:Qz (t.T j c * U.T l i):=(Qn.mul (HZT.out j c hj hc) qy).z (by decide)
            have zz:Qz (t.T j i):=(HZT.out j i hj hi').z (by decide)
            obtain ⟨W2,hW2⟩:∃ W2,wr.alloc (.cells #[.bool yn,.slice ya yl yk,.bool ym,.slice yb yi yj] 71) = W2:=⟨_,rfl⟩
            have bx:Blk W2 wr.heap.size 71 #[.bool yn,.slice ya yl yk,.bool ym,.slice yb yi yj]:=by rw [← hW2]; exact Blk.new wr _ _
            have sb2:Below wr.heap.size wr W2:=by rw [← hW2]; exact (Below.refl wr.heap.size wr).alloc (Nat.le_refl _) _
            replace HW2:=hide hW2
            clear hW2
            have hy2:=hy.below sb2 (Nat.le_refl _)
            have hx2:=hx.below sb2 (Nat.le_refl _)
            have fz2:=fz.below sb2 (Nat.le_refl _)
            replace x0:=cellB x0 sb2 (Nat.le_refl _)
            replace x1:=cellB x1 sb2 (Nat.le_refl _)
            replace x2:=cellB x2 sb2 (Nat.le_refl _)
            replace x3:=cellB x3 sb2 (Nat.le_refl _)
            have h5:=h4.below sb2
            have ej:(i:Int) < (S.n:Int):=by omega
            clear hy hx fz
            go_upto_region 28 with (fail)
            rw [HW2.out]
            clear HW2 y0 y1 y2 y3
            obtain ⟨b0,b1,b2,b3,-⟩:=bx.c4
            by_cases hic:i = c
            ·have e1:((i:Int) == (c:Int)) = true:=by simp [hic]
             have HE:Hid (t.T j c * U.T l i = U.T j i):=hide (by rw [HUP.out,hic,pivT_one,pivT_col hjl.out])
             replace hic:=hide hic
             go_wp2_with fail
             refine (FMul_any _ hx2 hy2 zx zy).mono ?_
             rintro e w6 ⟨rN,rfl,hN,hb6⟩
             rw [HE.out] at hN
             obtain ⟨un,ua,ul,uk,um,ub,ui,uj,rfl,-,-⟩:=FracV.parts hN
             have h7:=h5.below hb6
             obtain ⟨_,_,_,_,_,_,_,_,z0,z1,z2,z3,-⟩:=h7.tab.T j i hj hi'
             have f0:=h7.mem.fr j hj (i * 4)
             have f1:=h7.mem.fr j hj (i * 4 + 1)
             have f2:=h7.mem.fr j hj (i * 4 + 2)
             have f3:=h7.mem.fr j hj (i * 4 + 3)
             clear x0 x1 x2 x3 b0 b1 b2 b3
             go_wp2_with fail
             clear z0 z1 z2 z3 f0 f1 f2 f3
             go_roundg (gk - 1)
             case measure=>omega
             case rel=>
              exact ⟨i + 1,by omega,by go_num,TurnS.mix (h7.setT hj hi' hN) (fun l' c' _ _=>mixT_set (fun l' c'=>by show ((l' = l ∧ c' < S.n) ∨ (l' < j ∧ c' < S.n) ∨ (l' = j ∧ c' < i + 1)) ↔ (((l' = l ∧ c' < S.n) ∨ (l' < j ∧ c' < S.n) ∨ (l' = j ∧ c' < i)) ∨ (l' = j ∧ c' = i)); omega) l' c')⟩
            ·have e1:((i:Int) == (c:Int)) = false:=beq_eq_false_iff_ne.2 (by omega)
             have e2:¬(i:Int) = (c:Int):=by omega
             have HE:Hid (t.T j i + t.T j c * U.T l i = U.T j i):=hide (by rw [HUP.out,pivT_row hic,pivT_far hjl.out hic])
             obtain ⟨C,hC⟩:∃ C,ordQ (U.T l i) 0 = C:=⟨_,rfl⟩
             have HC:=hide hC
             clear hC
             replace hic:=hide hic
             go_wp2_with fail
             refine (sign_at hy2 zy HC.out).mono ?_
             rintro e w5 ⟨rfl,hb5⟩
             have h6:=h5.below hb5
             by_cases hT0:U.T l i = 0
             ·obtain rfl:C = 0:=HC.out.symm.trans (ordQ_00 hT0)
              have HE2:Hid (U.T j i = t.T j i):=hide (by rw [← HE.out,hT0]; grind)
              clear hT0 e1 e2
              go_wp2_with fail
              go_roundg (gk - 1)
              case measure=>omega
              case rel=>
               exact ⟨i + 1,by omega,by go_num,h6.mix (fun l' c' _ _=>mixT_grow (fun l' c' h=>by omega) (fun l' c' h hn=>by
                obtain ⟨h8,h9⟩:l' = j ∧ c' = i:=by omega
                rw [h8,h9]; exact HE2.out) l' c')⟩
             ·have f1:¬C = 0:=by rw [← HC.out]; exact ordQ_ne hT0
              have f2:(C != 0) = true:=by simp [f1]
              have f3:(C == 0) = false:=by simp [f1]
              have hx5:=hx2.below hb5 (Nat.le_refl _)
              have hy5:=hy2.below hb5 (Nat.le_refl _)
              replace x0:=cellB x0 hb5 (Nat.le_refl _)
              replace x1:=cellB x1 hb5 (Nat.le_refl _)
              replace x2:=cellB x2 hb5 (Nat.le_refl _)
              replace x3:=cellB x3 hb5 (Nat.le_refl _)
              replace b0:=cellB b0 hb5 (Nat.le_refl _)
              replace b1:=cellB b1 hb5 (Nat.le_refl _)
              replace b2:=cellB b2 hb5 (Nat.le_refl _)
              replace b3:=cellB b3 hb5 (Nat.le_refl _)
              obtain ⟨vn,va,vl,vk,vm,vb,vi,vj,v0,v1,v2,v3,hv⟩:=fz2.below hb5 (Nat.le_refl _)
              clear hT0 bx hx2 hy2 h4 h5
              go_upto_region 31 with (fail)
              refine wp_region_till (S:=fun w'=>w'.cell? ⟨(L.row j),i * 4,none⟩ = some (.bool vn) ∧ w'.cell? ⟨(L.row j),i * 4 + 1,none⟩ = some (.slice va vl vk) ∧ w'.cell? ⟨(L.row j),i * 4 + 2,none⟩ = some (.bool vm) ∧ w'.cell? ⟨(L.row j),i * 4 + 3,none⟩ = some (.slice vb vi vj) ∧ w'.cell? ⟨gq,0,none⟩ = some (.bool xn) ∧ w'.cell? ⟨gq,1,none⟩ = some (.slice xa xl xk) ∧ w'.cell? ⟨gq,2,none⟩ = some (.bool xm) ∧ w'.cell? ⟨gq,3,none⟩ = some (.slice xb xi xj) ∧ w'.cell? ⟨wr.heap.size,0,none⟩ = some (.bool yn) ∧ w'.cell? ⟨wr.heap.size,1,none⟩ = some (.slice ya yl yk) ∧ w'.cell? ⟨wr.heap.size,2,none⟩ = some (.bool ym) ∧ w'.cell? ⟨wr.heap.size,3,none⟩ = some (.slice yb yi yj) ∧ Below w5.heap.size w5 w') (fun i=>decide (i < 10)) (by kernel_rfl) (⟨v0,v1,v2,v3,x0,x1,x2,x3,b0,b1,b2,b3,(Below.refl _ _).drew⟩) (fun hS=>?_)
              refine tkT 0 ⟨some 217,.move (.tmp 17),61,"simplex.go:168",#[],none⟩ hS ?_
              try simp only [Act.put,sB,sC,sD]
              refine tkT 1 ⟨some 218,.move (.tmp 19),3,"simplex.go:168",#[],none⟩ hS ?_
              try simp only [Act.put,sB,sC,sD]
              refine tkT 2 ⟨some 219,.move (.tmp 17),61,"simplex.go:168",#[],none⟩ hS ?_
              try simp only [Act.put,sB,sC,sD]
              refine tkT 3 ⟨some 220,.move (.tmp 19),3,"simplex.go:168",#[],none⟩ hS ?_
              try simp only [Act.put,sB,sC,sD]
              refine tkT 4 ⟨some 221,.indexAddr 61 (.tmp 219) (.tmp 220),0,"simplex.go:168",#[eD 2,eD 3],none⟩ hS ?_
              try simp only [Act.put,sB,sC,sD]
              refine tkT 5 ⟨some 222,.load 71 (.tmp 221),71,"simplex.go:168",#[eD 4],none⟩ hS ?_
              try simp only [Act.put,sB,sC,sD]
              refine tkT 6 ⟨some 223,.load 71 (.tmp 18),71,"simplex.go:168",#[],none⟩ hS ?_
              try simp only [Act.put,sB,sC,sD]
              refine tkT 7 ⟨some 224,.load 71 (.tmp 20),71,"simplex.go:168",#[],none⟩ hS ?_
              try simp only [Act.put,sB,sC,sD]
              refine Till_ready (rs:=[8]) (by kernel_rfl) (by kernel_rfl) (by simp) ?_
              refine AllReadyT.cons (o:=⟨some 225,.call { callee:=.value (.func 80),args:=#[.tmp 223,.tmp 224],argTypes:=#[71,71] },71,"simplex.go:168",#[eD 6,eD 7],none⟩) rfl (fun K hK=>?_) AllReadyT.nil
              go_simp
              (go_at_call 80; (with_reducible refine (FMul_any _ (hx5.below (hS.2.2.2.2.2.2.2.2.2.2.2.2) (Nat.le_refl _)) (hy5.below (hS.2.2.2.2.2.2.2.2.2.2.2.2) (Nat.le_refl _)) zx zy).mono ?_); rintro e wA ⟨rA,rfl,hA,hb1⟩)
              go_wp2_with fail
              refine hK.out _ _ (keepZ12 hS hb1) (fun hS=>?_)
              clear hK K hb1
              try simp only [Act.put,sB,sC,sD]
              refine Till_ready (rs:=[9]) (by kernel_rfl) (by kernel_rfl) (by simp) ?_
              refine AllReadyT.cons (o:=⟨some 226,.call { callee:=.value (.func 79),args:=#[.tmp 222,.tmp 225],argTypes:=#[71,71] },71,"simplex.go:168",#[eD 5,eD 8,eC 8],none⟩) rfl (fun K hK=>?_) AllReadyT.nil
              go_simp
              (go_at_call 79; (with_reducible refine (FAdd_any _ (hv.below (hS.2.2.2.2.2.2.2.2.2.2.2.2) (Nat.le_refl _)) hA zz zxy).mono ?_); rintro e wN ⟨rN,rfl,hN,hb1⟩)
              obtain ⟨un,ua,ul,uk,um,ub,ui,uj,rfl,-,-⟩:=FracV.parts hN
              rw [HE.out] at hN
              go_wp2_with fail
              refine hK.out _ _ (keepZ12 hS hb1) (fun hS=>?_)
              clear hK K hb1
              try simp only [Act.put,sB,sC,sD]
              refine Till_turn (by kernel_rfl) ?_
              refine tkH 10 ⟨some 227,.indexAddr 61 (.tmp 217) (.tmp 218),0,"simplex.go:168",#[eD 0,eD 1,eP 0,eP 1,eP 2,eP 3,eP 4,eP 5,eP 6,eP 7,eP 8,eP 9],none⟩ trivial ?_
              try simp only [Act.put,sB,sC,sD]
              refine wpAnyH_ready (rs:=[11]) (by kernel_rfl) (by simp) ?_
              refine AllReadyH.cons (o:=⟨none,.store 71 (.tmp 227) (.tmp 226),0,"simplex.go:168",#[eD 10,eD 9,eC 9,eP 0,eP 1,eP 2,eP 3,eP 4,eP 5,eP 6,eP 7,eP 8,eP 9],none⟩) rfl (fun K hK=>?_) AllReadyH.nil
              have h7:=h6.below (hS.2.2.2.2.2.2.2.2.2.2.2.2)
              obtain ⟨_,_,_,_,_,_,_,_,z0,z1,z2,z3,-⟩:=h7.tab.T j i hj hi'
              have f0:=h7.mem.fr j hj (i * 4)
              have f1:=h7.mem.fr j hj (i * 4 + 1)
              have f2:=h7.mem.fr j hj (i * 4 + 2)
              have f3:=h7.mem.fr j hj (i * 4 + 3)
              obtain ⟨W3,hW3⟩:∃ W3,put4 wN (L.row j) (i * 4) (.bool un) (.slice ua ul uk) (.bool um) (.slice ub ui uj) = W3:=⟨_,rfl⟩
              have h8:TurnS w.heap.size B w S L P3 { U with T:=mixT t.T U.T (fun l' c'=>(l' = l ∧ c' < S.n) ∨ (l' < j ∧ c' < S.n) ∨ (l' = j ∧ c' < i + 1)) } W3:=by rw [← hW3]; exact TurnS.mix (h7.setT hj hi' hN) (fun l' c' _ _=>mixT_set (fun l' c'=>by show ((l' = l ∧ c' < S.n) ∨ (l' < j ∧ c' < S.n) ∨ (l' = j ∧ c' < i + 1)) ↔ (((l' = l ∧ c' < S.n) ∨ (l' < j ∧ c' < S.n) ∨ (l' = j ∧ c' < i)) ∨ (l' = j ∧ c' = i)); omega) l' c')
              simp only [put4] at hW3
              have HW3:=hide hW3
              clear hW3
              go_simp
              refine hK.out _ _ trivial (fun _=>?_)
              clear hK K z0 z1 z2 z3 f0 f1 f2 f3
              try simp only [Act.put,sB,sC,sD]
              refine wpAnyH_done (by kernel_rfl) ?_ _
              rw [HW3.out]
              clear HW3 hS x0 x1 x2 x3 b0 b1 b2 b3 v0 v1 v2 v3 hv hx5 hy5 e1 e2 f1 f2 f3 h7 h6
              go_wp2_with fail
              go_roundg (gk - 1)
              case measure=>omega
              case rel=>exact ⟨i + 1,by omega,by go_num,h8⟩
     ·have hj:j < S.n:=by omega
      have e:=h4.tab.T l j hl hj
      have e2:mixT t.T U.T (fun l' c'=>l' = l ∧ c' < j ∧ c' ≠ c) l j = t.T l j:=mixT_no (fun h=>absurd h.2.1 (Nat.lt_irrefl _))
      change FAt _ _ _ (mixT t.T U.T (fun l' c'=>l' = l ∧ c' < j ∧ c' ≠ c) l j) at e
      rw [e2] at e
      obtain ⟨xn,xa,xl,xk,xm,xb,xi,xj,x0,x1,x2,x3,hx⟩:=e
      clear e2
      have zx:Qz (t.T l j):=(HZT.out l j hl hj).z (by decide)
      obtain ⟨W2,hW2⟩:∃ W2,wr.alloc (.cells #[.bool xn,.slice xa xl xk,.bool xm,.slice xb xi xj] 71) = W2:=⟨_,rfl⟩
      have bx:Blk W2 wr.heap.size 71 #[.bool xn,.slice xa xl xk,.bool xm,.slice xb xi xj]:=by rw [← hW2]; exact Blk.new wr _ _
      have sb2:Below wr.heap.size wr W2:=by rw [← hW2]; exact (Below.refl wr.heap.size wr).alloc (Nat.le_refl _) _
      replace HW2:=hide hW2
      clear hW2
      have hx2:=hx.below sb2 (Nat.le_refl _)
      have h5:=h4.below sb2
      have ej:(j:Int) < (S.n:Int):=by omega
      obtain ⟨C,hC⟩:∃ C,ordQ (t.T l j) 0 = C:=⟨_,rfl⟩
      have HC:=hide hC
      clear hC hx
      go_upto_region 16 with (fail)
      rw [HW2.out]
      clear HW2 x0 x1 x2 x3
      obtain ⟨b0,b1,b2,b3,-⟩:=bx.c4
      by_cases hjc:j = c
      ·have e1:((j:Int) == (c:Int)) = true:=by simp [hjc]
       have e2:((j:Int) != (c:Int)) = false:=by simp [hjc]
       replace hjc:=hide hjc
       go_wp2_with fail
       go_roundg (gk - 1)
       case measure=>omega
       case rel=>
        have h7:=hjc.out
        exact ⟨j + 1,by omega,by go_num,h5.mix (fun l' c' _ _=>mixT_grow (fun l' c' h=>⟨h.1,by have:=h.2.1; omega,h.2.2⟩) (fun l' c' h hn=>absurd ⟨h.1,by have:=h.2.1; have:=h.2.2; omega,h.2.2⟩ hn) l' c')⟩
      ·have e1:((j:Int) == (c:Int)) = false:=beq_eq_false_iff_ne.2 (by omega)
       have e2:((j:Int) != (c:Int)) = true:=by simp [bne,e1]
       have e3:¬(j:Int) = (c:Int):=by omega
       replace hjc:=hide hjc
       go_wp2_with fail
       refine (sign_at hx2 zx HC.out).mono ?_
       rintro e w5 ⟨rfl,hb5⟩
       have h6:=h5.below hb5
       by_cases hT0:t.T l j = 0
       ·obtain rfl:C = 0:=HC.out.symm.trans (ordQ_00 hT0)
        have HE:Hid (U.T l j = t.T l j):=hide (by rw [HUP.out,pivT_row hjc.out,hT0]; grind)
        clear hT0 e1 e2 e3
        go_wp2_with fail
        go_roundg (gk - 1)
        case measure=>omega
        case rel=>
         have h7:=hjc.out
         exact ⟨j + 1,by omega,by go_num,h6.mix (fun l' c' _ _=>mixT_grow (fun l' c' h=>⟨h.1,by have:=h.2.1; omega,h.2.2⟩) (fun l' c' h hn=>by
          have h8:c' = j:=Classical.byContradiction fun h9=>hn ⟨h.1,by have:=h.2.1; omega,h.2.2⟩
          rw [h.1,h8]; exact HE.out) l' c')⟩
       ·have f1:¬C = 0:=by rw [← HC.out]; exact ordQ_ne hT0
        have f2:(C != 0) = true:=by simp [f1]
        have f3:(C == 0) = false:=by simp [f1]
        have HE:Hid (-(t.T l j / t.T l c) = U.T l j):=hide (by rw [HUP.out,pivT_row hjc.out])
        have hx5:=hx2.below hb5 (Nat.le_refl _)
        have c0:=cellB b0 hb5 (Nat.le_refl _)
        have c1:=cellB b1 hb5 (Nat.le_refl _)
        have c2:=cellB b2 hb5 (Nat.le_refl _)
        have c3:=cellB b3 hb5 (Nat.le_refl _)
        obtain ⟨yn,ya,yl,yk,ym,yb,yi,yj,y0,y1,y2,y3,hy⟩:=(h6.box gb _ hpb).2.box
        have zd:Qz (t.T l j / t.T l c):=(Qn.div (HZT.out l j hl hj) (HZT.out l c hl hc)).z (by decide)
        clear hT0 b0 b1 b2 b3 bx hx2 h4 h5
        go_wp2_with fail
        refine (FDiv_any _ hx5 hy zx zy).mono ?_
        rintro e w6 ⟨rA,rfl,hA,hb6⟩
        clear c0 c1 c2 c3 y0 y1 y2 y3 e1 e2 e3 f1 f2 f3
        go_wp2_with fail
        refine (FNeg_any _ hA zd).mono ?_
        rintro e w7 ⟨rN,rfl,hN,hb7⟩
        rw [HE.out] at hN
        obtain ⟨un,ua,ul,uk,um,ub,ui,uj,rfl,-,-⟩:=FracV.parts hN
        have h7:=(h6.below hb6).below hb7
        obtain ⟨_,_,_,_,_,_,_,_,z0,z1,z2,z3,-⟩:=h7.tab.T l j hl hj
        have f0:=h7.mem.fr l hl (j * 4)
        have f1:=h7.mem.fr l hl (j * 4 + 1)
        have f2:=h7.mem.fr l hl (j * 4 + 2)
        have f3:=h7.mem.fr l hl (j * 4 + 3)
        go_wp2_with fail
        clear z0 z1 z2 z3 f0 f1 f2 f3
        go_roundg (gk - 1)
        case measure=>omega
        case rel=>
         have h9:=hjc.out
         exact ⟨j + 1,by omega,by go_num,TurnS.mix (h7.setT hl hj hN) (fun l' c' _ _=>mixT_set (fun l' c'=>by show (l' = l ∧ c' < j + 1 ∧ c' ≠ c) ↔ ((l' = l ∧ c' < j ∧ c' ≠ c) ∨ (l' = l ∧ c' = j)); omega) l' c')⟩
   ·have hj:j < S.m:=by omega
    have htl:t.told j < S.n + S.m:=hi.at'.toldLt j hj
    have kt:wr.cell? ⟨L.gt,j,none⟩ = some (.int .i64 (t.told j:Int)):=h4.tab.told j hj
    have k5:=h4.tab.c5
    have kr:=h4.tab.rows j hj
    rw [a5.out] at k5
    rw [ar.out j hj] at kr
    obtain ⟨xn,xa,xl,xk,xm,xb,xi,xj,x0,x1,x2,x3,hx⟩:FAt wr (L.row j) (c * 4) (t.T j c):=h4.tab.T j c hj hc
    have zx:Qz (t.T j c):=(HZT.out j c hj hc).z (by decide)
    obtain ⟨W2,hW2⟩:∃ W2,wr.alloc (.cells #[.bool xn,.slice xa xl xk,.bool xm,.slice xb xi xj] 71) = W2:=⟨_,rfl⟩
    have bx:Blk W2 wr.heap.size 71 #[.bool xn,.slice xa xl xk,.bool xm,.slice xb xi xj]:=by rw [← hW2]; exact Blk.new wr _ _
    have sb2:Below wr.heap.size wr W2:=by rw [← hW2]; exact (Below.refl wr.heap.size wr).alloc (Nat.le_refl _) _
    replace HW2:=hide hW2
    clear hW2
    have hx2:=hx.below sb2 (Nat.le_refl _)
    have h5:=h4.below sb2
    have ej:(j:Int) < (S.m:Int):=by omega
    have e9:(t.told j:Int) < (S.n:Int) + (S.m:Int):=by omega
    obtain ⟨C,hC⟩:∃ C,ordQ (t.T j c) 0 = C:=⟨_,rfl⟩
    have HC:=hide hC
    clear hC hx
    go_upto_region 7 with (fail)
    rw [HW2.out]
    clear HW2 x0 x1 x2 x3 k5 kr kt
    obtain ⟨b0,b1,b2,b3,-⟩:=bx.c4
    go_wp2_with fail
    refine (sign_at hx2 zx HC.out).mono ?_
    rintro e w5 ⟨rfl,hb5⟩
    have h6:=h5.below hb5
    by_cases hT0:t.T j c = 0
    ·obtain rfl:C = 0:=HC.out.symm.trans (ordQ_00 hT0)
     have HE:Hid (stepV t c st (j + 1) = stepV t c st j):=hide (stepV_zero hT0)
     clear hT0
     go_wp2_with fail
     go_roundg (gk - 1)
     case measure=>omega
     case rel=>exact ⟨j + 1,by omega,by go_num,by rw [HE.out]; exact h6⟩
    ·have e1:¬C = 0:=by rw [← HC.out]; exact ordQ_ne hT0
     have e2:(C != 0) = true:=by simp [e1]
     have e3:(C == 0) = false:=by simp [e1]
     have hx5:=hx2.below hb5 (Nat.le_refl _)
     have c0:=cellB b0 hb5 (Nat.le_refl _)
     have c1:=cellB b1 hb5 (Nat.le_refl _)
     have c2:=cellB b2 hb5 (Nat.le_refl _)
     have c3:=cellB b3 hb5 (Nat.le_refl _)
     have k2:=h6.tab.c2
     rw [a2.out] at k2
     obtain ⟨vn,va,vl,vk,vm,vb,vi,vj,v0,v1,v2,v3,hv⟩:FAt w5 L.gv (t.told j * 4) (stepV t c st j (t.told j)):=h6.tab.val (t.told j) htl
     have zv:Qz (stepV t c st j (t.told j)):=by
      rw [stepV_else t c st _ j (fun l' h' he=>by have:=hi.at'.toldInj l' j (by omega) hj he; omega)]
      exact (HZV.out _ htl).z (by decide)
     have zxs:Qz (t.T j c * st):=(Qn.mul (HZT.out j c hj hc) zs).z (by decide)
     obtain ⟨qn,qa,ql,qk,qm,qb,qi,qj,q0,q1,q2,q3,hq⟩:=(h6.box gs st hps).2.box
     clear hT0 b0 b1 b2 b3 bx hx2 h4 h5
     go_upto_region 8 with (fail)
     refine wp_region_till (S:=fun w'=>w'.cell? ⟨L.p,2,none⟩ = some (.slice (some ⟨L.gv,0,none⟩) (S.n + S.m) L.kv) ∧ w'.cell? ⟨L.gv,t.told j * 4,none⟩ = some (.bool vn) ∧ w'.cell? ⟨L.gv,t.told j * 4 + 1,none⟩ = some (.slice va vl vk) ∧ w'.cell? ⟨L.gv,t.told j * 4 + 2,none⟩ = some (.bool vm) ∧ w'.cell? ⟨L.gv,t.told j * 4 + 3,none⟩ = some (.slice vb vi vj) ∧ w'.cell? ⟨wr.heap.size,0,none⟩ = some (.bool xn) ∧ w'.cell? ⟨wr.heap.size,1,none⟩ = some (.slice xa xl xk) ∧ w'.cell? ⟨wr.heap.size,2,none⟩ = some (.bool xm) ∧ w'.cell? ⟨wr.heap.size,3,none⟩ = some (.slice xb xi xj) ∧ w'.cell? ⟨gs,0,none⟩ = some (.bool qn) ∧ w'.cell? ⟨gs,1,none⟩ = some (.slice qa ql qk) ∧ w'.cell? ⟨gs,2,none⟩ = some (.bool qm) ∧ w'.cell? ⟨gs,3,none⟩ = some (.slice qb qi qj) ∧ Below w5.heap.size w5 w') (fun i=>decide (i < 16)) (by kernel_rfl) (⟨k2,v0,v1,v2,v3,c0,c1,c2,c3,q0,q1,q2,q3,(Below.refl _ _).drew⟩) (fun hS=>?_)
     refine tkT 0 ⟨some 90,.move (.tmp 0),101,"simplex.go:146",#[],none⟩ hS ?_
     try simp only [Act.put,sB,sC,sD]
     refine tkT 1 ⟨some 91,.nilCheck (.tmp 90),0,"simplex.go:146",#[eD 0],none⟩ hS ?_
     try simp only [Act.put,sB,sC,sD]
     refine tkT 2 ⟨some 92,.fieldAddr 108 (.tmp 91) 2,0,"simplex.go:146",#[eD 1],none⟩ hS ?_
     try simp only [Act.put,sB,sC,sD]
     refine tkT 3 ⟨some 93,.load 61 (.tmp 92),61,"simplex.go:146",#[eD 2],none⟩ hS ?_
     try simp only [Act.put,sB,sC,sD]
     refine tkT 4 ⟨some 94,.move (.tmp 11),3,"simplex.go:146",#[],none⟩ hS ?_
     try simp only [Act.put,sB,sC,sD]
     refine tkT 5 ⟨some 95,.move (.tmp 0),101,"simplex.go:146",#[],none⟩ hS ?_
     try simp only [Act.put,sB,sC,sD]
     refine tkT 6 ⟨some 96,.nilCheck (.tmp 95),0,"simplex.go:146",#[eD 5],none⟩ hS ?_
     try simp only [Act.put,sB,sC,sD]
     refine tkT 7 ⟨some 97,.fieldAddr 108 (.tmp 96) 2,0,"simplex.go:146",#[eD 6],none⟩ hS ?_
     try simp only [Act.put,sB,sC,sD]
     refine tkT 8 ⟨some 98,.load 61 (.tmp 97),61,"simplex.go:146",#[eD 7],none⟩ hS ?_
     try simp only [Act.put,sB,sC,sD]
     refine tkT 9 ⟨some 99,.move (.tmp 11),3,"simplex.go:146",#[],none⟩ hS ?_
     try simp only [Act.put,sB,sC,sD]
     refine tkT 10 ⟨some 100,.indexAddr 61 (.tmp 98) (.tmp 99),0,"simplex.go:146",#[eD 8,eD 9],none⟩ hS ?_
     try simp only [Act.put,sB,sC,sD]
     refine tkT 11 ⟨some 101,.load 71 (.tmp 100),71,"simplex.go:146",#[eD 10],none⟩ hS ?_
     try simp only [Act.put,sB,sC,sD]
     refine tkT 12 ⟨some 102,.load 71 (.tmp 12),71,"simplex.go:146",#[],none⟩ hS ?_
     try simp only [Act.put,sB,sC,sD]
     refine tkT 13 ⟨some 103,.load 71 (.tmp 9),71,"simplex.go:146",#[],none⟩ hS ?_
     try simp only [Act.put,sB,sC,sD]
     refine Till_ready (rs:=[14]) (by kernel_rfl) (by kernel_rfl) (by simp) ?_
     refine AllReadyT.cons (o:=⟨some 104,.call { callee:=.value (.func 80),args:=#[.tmp 102,.tmp 103],argTypes:=#[71,71] },71,"simplex.go:146",#[eD 12,eD 13],none⟩) rfl (fun K hK=>?_) AllReadyT.nil
     go_simp
     (go_at_call 80; (with_reducible refine (FMul_any _ (hx5.below (hS.2.2.2.2.2.2.2.2.2.2.2.2.2) (Nat.le_refl _)) (hq.below (hS.2.2.2.2.2.2.2.2.2.2.2.2.2) (Nat.le_refl _)) zx zst).mono ?_); rintro e wA ⟨rA,rfl,hA,hb1⟩)
     go_wp2_with fail
     refine hK.out _ _ (keepZ13 hS hb1) (fun hS=>?_)
     clear hK K hb1
     try simp only [Act.put,sB,sC,sD]
     refine Till_ready (rs:=[15]) (by kernel_rfl) (by kernel_rfl) (by simp) ?_
     refine AllReadyT.cons (o:=⟨some 105,.call { callee:=.value (.func 79),args:=#[.tmp 101,.tmp 104],argTypes:=#[71,71] },71,"simplex.go:146",#[eD 11,eD 14,eC 14],none⟩) rfl (fun K hK=>?_) AllReadyT.nil
     go_simp
     (go_at_call 79; (with_reducible refine (FAdd_any _ (hv.below (hS.2.2.2.2.2.2.2.2.2.2.2.2.2) (Nat.le_refl _)) hA zv zxs).mono ?_); rintro e wN ⟨rN,rfl,hN,hb1⟩)
     obtain ⟨un,ua,ul,uk,um,ub,ui,uj,rfl,-,-⟩:=FracV.parts hN
     go_wp2_with fail
     refine hK.out _ _ (keepZ13 hS hb1) (fun hS=>?_)
     clear hK K hb1
     try simp only [Act.put,sB,sC,sD]
     refine Till_turn (by kernel_rfl) ?_
     refine tkH 16 ⟨some 106,.indexAddr 61 (.tmp 93) (.tmp 94),0,"simplex.go:146",#[eD 3,eD 4,eP 0,eP 1,eP 2,eP 3,eP 4,eP 5,eP 6,eP 7,eP 8,eP 9,eP 10,eP 11,eP 12,eP 13,eP 14,eP 15],none⟩ trivial ?_
     try simp only [Act.put,sB,sC,sD]
     refine wpAnyH_ready (rs:=[17]) (by kernel_rfl) (by simp) ?_
     refine AllReadyH.cons (o:=⟨none,.store 71 (.tmp 106) (.tmp 105),0,"simplex.go:146",#[eD 16,eD 15,eC 15,eP 0,eP 1,eP 2,eP 3,eP 4,eP 5,eP 6,eP 7,eP 8,eP 9,eP 10,eP 11,eP 12,eP 13,eP 14,eP 15],none⟩) rfl (fun K hK=>?_) AllReadyH.nil
     have h7:=h6.below (hS.2.2.2.2.2.2.2.2.2.2.2.2.2)
     obtain ⟨_,_,_,_,_,_,_,_,z0,z1,z2,z3,-⟩:=h7.tab.val (t.told j) htl
     have f0:=h7.mem.fv (t.told j * 4)
     have f1:=h7.mem.fv (t.told j * 4 + 1)
     have f2:=h7.mem.fv (t.told j * 4 + 2)
     have f3:=h7.mem.fv (t.told j * 4 + 3)
     obtain ⟨W3,hW3⟩:∃ W3,put4 wN L.gv (t.told j * 4) (.bool un) (.slice ua ul uk) (.bool um) (.slice ub ui uj) = W3:=⟨_,rfl⟩
     have h8:TurnS w.heap.size B w S L P { t with val:=stepV t c st (j + 1) } W3:=by rw [← hW3]; exact h7.setVal htl hN
     simp only [put4] at hW3
     have HW3:=hide hW3
     clear hW3
     go_simp
     refine hK.out _ _ trivial (fun _=>?_)
     clear hK K z0 z1 z2 z3 f0 f1 f2 f3
     try simp only [Act.put,sB,sC,sD]
     refine wpAnyH_done (by kernel_rfl) ?_ _
     rw [HW3.out]
     clear HW3 hS c0 c1 c2 c3 k2 v0 v1 v2 v3 q0 q1 q2 q3 e1 e2 e3 hv hq hx5
     go_wp2_with fail
     go_roundg (gk - 1)
     case measure=>omega
     case rel=>exact ⟨j + 1,by omega,by go_num,h8⟩

def Reach (S:Sys) (i:Nat) (u:Sim):Prop:=∃ t L C,Run S t L C i ∧ t 0 = S.first ∧ t i = u
theorem Reach.start (S:Sys):Reach S 0 S.first:=⟨fun _=>S.first,fun _=>0,fun _=>0,⟨S.first_inv,fun _ h=>absurd h (Nat.not_lt_zero _)⟩,rfl,rfl⟩
theorem Reach.inv {S:Sys} {i:Nat} {u:Sim} (h:Reach S i u):Inv S u:=by
 obtain ⟨t,L,C,h1,_,h2⟩:=h
 exact h2 ▸ h1.inv i (Nat.le_refl _)
theorem Reach.step {S:Sys} {i l c:Nat} {u v:Sim} (h:Reach S i u) (hs:Step S u v l c):Reach S (i + 1) v:=by
 obtain ⟨t,L,C,h1,h0,h2⟩:=h
 refine ⟨put t (i + 1) v,put L i l,put C i c,⟨?_,fun j hj=>?_⟩,?_,put_at _ _ _⟩
 ·rw [put_else _ _ (by omega)]
  exact h1.start
 ·by_cases he:j = i
  ·subst he
   rw [put_at,put_at,put_at,put_else _ _ (by omega),h2]
   exact hs
  ·rw [put_else _ _ he,put_else _ _ he,put_else _ _ (by omega),put_else _ _ (by omega)]
   exact h1.step j (by omega)
 ·rw [put_else _ _ (by omega),h0]
theorem Reach.lt {S:Sys} {i:Nat} {u:Sim} (h:Reach S i u):i < (allB (S.n + S.m)).length:=by
 obtain ⟨t,L,C,h1,_,_⟩:=h
 exact h1.ends
theorem Reach.last {S:Sys} {i:Nat} {u:Sim} (h:Reach S i u) (hd:(∀ l,l < S.m → ¬S.Over u l) ∨ ∃ l0,First S.m (S.Over u) u.told l0 ∧ ∀ c,c < S.n → ¬S.Free u l0 c):Last S u:=by
 obtain ⟨t,L,C,h1,h2,h3⟩:=h
 exact ⟨⟨t,L,C,i,h1,h2,h3⟩,hd⟩
theorem why_size {S:Sys} {s M:Nat} (hf:Fair S s M) {t:Sim} (h:Inv S t) {l:Nat} (hl:l < S.m) (i:Nat):∀ k,k ≤ S.n → Qn 10000000 (whyK S t l k i)
 | 0,_=>by
  show Qn _ (put _ _ _ _)
  unfold put
  split
  ·exact Qn.mono Qn.one (by decide)
  ·exact Qn.mono Qn.zero (by decide)
 | k + 1,hk=>by
  have ih:=why_size hf h hl i k (by omega)
  rw [whyK]
  split
  ·exact ih
  ·unfold put
   split
   ·exact Qn.neg (hf.T h hl (by omega))
   ·exact ih

def AnsV (w w':World) (S:Sys) (v:Value):Prop:=∃ u,Last S u ∧
  (((∀ l,l < S.m → ¬S.Over u l) ∧ ∃ g,w.heap.size ≤ g ∧ v = .agg #[.slice (some ⟨g,0,none⟩) S.n S.n,.slice none 0 0] ∧ ∀ i,i < S.n → FAt w' g (i * 4) (u.val i)) ∨
   (∃ l0,First S.m (S.Over u) u.told l0 ∧ (∀ c,c < S.n → ¬S.Free u l0 c) ∧ ∃ g,w.heap.size ≤ g ∧ v = .agg #[.slice none 0 0,.slice (some ⟨g,0,none⟩) S.m S.m] ∧ ∀ i,i < S.m → FAt w' g (i * 4) (whyK S u l0 S.n i)))
def SolvePost (w:World) (U:Int) (rs:List RRow) (e:Ending) (w':World):Prop:=
 Below w.heap.size w w' ∧ ((rightRows U rs = false ∧ e = .returned (.tuple #[.agg #[.slice none 0 0,.slice none 0 0],.int .i64 1])) ∨
  (rightRows U rs = true ∧ ∃ v,e = .returned (.tuple #[v,.int .i64 0]) ∧ AnsV w w' (sysOf U.toNat rs) v))

theorem SolvePost.bad {w w':World} {U:Int} {rs:List RRow} (hb:Below w.heap.size w w') (h:rightRows U rs = false):SolvePost w U rs (.returned (.tuple #[.agg #[.slice none 0 0,.slice none 0 0],.int .i64 1])) w':=⟨hb,.inl ⟨h,rfl⟩⟩
theorem right_bad {U:Int} {rs:List RRow} {j:Nat} (hj:j < rs.length) (h:(rs[j]).right U = false):rightRows U rs = false:=by
 unfold rightRows
 have:rs.all (RRow.right U) = false:=List.all_eq_false.2 ⟨rs[j],List.getElem_mem hj,by rw [h]; decide⟩
 rw [this]
 simp

theorem FAt.set2 {w:World} {g o N:Nat} {q:Rat} {t:TypeId} {a b:Option Addr} {l k i j:Nat} (h:FAt w g o q) (hB:Blk w N t #[.slice a l k,.slice b i j]) (hne:N ≠ g) (x y:Value):FAt ((w.setCell ⟨N,0,none⟩ x).setCell ⟨N,1,none⟩ y) g o q:=by
 obtain ⟨c0,c1,-⟩:=hB.c2
 refine FAt.setX (h.setX (NoDig.of c0 (by intro z e; cases e)) (.inl hne) x) ?_ (.inl hne) y
 exact (NoDig.of c1 (by intro z e; cases e)).far (by simp) x
theorem all_right {U:Int} {rs:List RRow} (h0:0 ≤ U) (h1:U ≤ 1000) (h:∀ i (h:i < rs.length),(rs[i]).right U = true):rightRows U rs = true:=by
 unfold rightRows
 rw [decide_eq_true h0,decide_eq_true h1,Bool.true_and,Bool.true_and,List.all_eq_true]
 intro r hr
 obtain ⟨i,hi,rfl⟩:=List.mem_iff_getElem.1 hr
 exact h i hi
def SolveS (K B:Nat) (w0:World) (S:Sys) (L:Spots) (k:Nat) (wr:World):Prop:=∃ i u,i + k = K ∧ Reach S i u ∧ TabV wr S u L ∧ (0 < S.n → 0 < S.m → TabM B wr S L) ∧ Below B w0 wr

set_option maxRecDepth 100000 in
set_option maxHeartbeats 6400000 in
theorem solve_any {s M:Nat} (U:Int) (a:Option Addr) (cap:Nat) (rs:List RRow) (w:World) (hx:RowsAt w a rs) (hs:∀ r ∈ rs,r.sz 1000000000) (hl:rs.length ≤ 64) (hxl:∀ r ∈ rs,r.xs.length ≤ 1000000) (hf:rightRows U rs = true → Fair (sysOf U.toNat rs) s M) :
  Calls Try.prog 27 #[.int .i64 U,.slice a rs.length cap] w (SolvePost w U rs):=by
 generalize hP:SolvePost w U rs = Post
 have HP:=hide hP
 clear hP
 have HS:=hide hs
 have HX:=hide hx
 have HF:=hide hf
 have HL:=hide hxl
 clear hs hx hf hxl
 obtain ⟨N,hN⟩:∃ N,w.heap.size = N:=⟨_,rfl⟩
 obtain ⟨W,hW⟩:∃ W,w.alloc (.cells #[.slice none 0 0,.slice none 0 0] 63) = W:=⟨_,rfl⟩
 have b0:Blk W w.heap.size 63 #[.slice none 0 0,.slice none 0 0]:=by rw [← hW]; exact Blk.new w _ _
 have sb:Below w.heap.size w W:=by rw [← hW]; exact (Below.refl w.heap.size w).alloc (Nat.le_refl _) _
 rw [hN] at b0 sb
 have HW:=hide hW
 have HN:=hide hN
 have hbad:∀ w':World,Below N w w' → rightRows U rs = false → Post (.returned (.tuple #[.agg #[.slice none 0 0,.slice none 0 0],.int .i64 1])) w':=fun w' hb h=>by
  rw [← HP.out]
  exact SolvePost.bad (by rw [HN.out]; exact hb) h
 have HB:=hide hbad
 clear hW hN hbad
 rcases Int.lt_or_le U 0 with hU | hU
 ·have HR:Hid (rightRows U rs = false):=hide (by unfold rightRows; rw [decide_eq_false (by omega)]; rfl)
  have e1:decide (U < 0) = true:=decide_eq_true hU
  go_enter Try.func27,Try.ntmps27
  go_upto_region 1 with (fail)
  rw [HW.out,HN.out]
  clear HW
  obtain ⟨z0,z1,zf⟩:=b0.c2
  go_wp2_with fail
  refine bodyPost_ret (v:=.tuple #[.agg #[.slice none 0 0,.slice none 0 0],.int .i64 1]) (by simp [results,Try.results27,go_sem,z0,z1]) rfl ?_
  exact HB.out _ ((sb.setCell (Nat.le_refl _) _).setCell (Nat.le_refl _) _) HR.out
 ·rcases Int.lt_or_le 1000 U with hU2 | hU2
  ·have HR:Hid (rightRows U rs = false):=hide (by unfold rightRows; rw [decide_eq_true hU,decide_eq_false (by omega)]; rfl)
   have e1:decide (U < 0) = false:=decide_eq_false (by omega)
   have e2:decide (1000 < U) = true:=decide_eq_true hU2
   have e3:¬U < 0:=by omega
   go_enter Try.func27,Try.ntmps27
   go_upto_region 1 with (fail)
   rw [HW.out,HN.out]
   clear HW
   obtain ⟨z0,z1,zf⟩:=b0.c2
   go_wp2_with fail
   refine bodyPost_ret (v:=.tuple #[.agg #[.slice none 0 0,.slice none 0 0],.int .i64 1]) (by simp [results,Try.results27,go_sem,z0,z1]) rfl ?_
   exact HB.out _ ((sb.setCell (Nat.le_refl _) _).setCell (Nat.le_refl _) _) HR.out
  ·obtain ⟨n,rfl⟩:∃ n:Nat,U = (n:Int):=⟨U.toNat,by omega⟩
   have hn:n ≤ 1000:=by omega
   have e1:decide ((n:Int) < 0) = false:=decide_eq_false (by omega)
   have e2:decide (1000 < (n:Int)) = false:=decide_eq_false (by omega)
   have e3:¬(n:Int) < 0:=by omega
   have e4:¬1000 < (n:Int):=by omega
   go_enter Try.func27,Try.ntmps27
   go_upto_region 1 with (fail)
   rw [HW.out,HN.out]
   clear HW
   go_wp2_with fail
   go_loopg [22] rs.length (fun k v22 wr=>∃ j:Nat,j + k = rs.length ∧ v22 = .int .i64 (j:Int) ∧ Below W.heap.size W wr ∧ Hid (∀ i (h:i < rs.length),i < j → (rs[i]).right (n:Int) = true))
   case atStart=>exact ⟨0,by omega,rfl,Below.refl _ _,hide (fun i _ h=>absurd h (Nat.not_lt_zero _))⟩
   case round=>
    obtain ⟨j,hjk,rfl,hB,HJ⟩:=hrel
    have b1:=b0.below hB b0.lt
    have sb1:Below N w wr:=sb.trans (hB.mono (Nat.le_of_lt b0.lt))
    rcases Nat.eq_zero_or_pos gk with h0 | h0
    ·subst h0
     obtain hj:j = rs.length:=by omega
     subst hj
     have HR:Hid (rightRows n rs = true):=hide (all_right (by omega) (by omega) (fun i hi=>HJ.out i hi hi))
     have hf:=HF.out HR.out
     obtain ⟨S,hS⟩:∃ S,sysOf n rs = S:=⟨_,rfl⟩
     have hSn:S.n = n:=by rw [← hS]; rfl
     have hSm:S.m = rs.length:=by rw [← hS]; rfl
     have hTo:(n:Int).toNat = n:=by omega
     rw [hTo,hS] at hf
     have hrv:0 < S.m → ∃ b o,a = some ⟨b,o,none⟩ ∧ RowsV wr b o S:=fun h0=>by
      rw [hSm] at h0
      obtain ⟨b,o,e,h⟩:=(HX.out.below sb1 (Nat.le_of_eq HN.out)).val HR.out h0
      exact ⟨b,o,e,by rw [← hS]; exact h⟩
     have HOK:Hid (∀ (w':World) (v:Value),Below N w w' → AnsV w w' S v → Post (.returned (.tuple #[v,.int .i64 0])) w'):=hide (fun w' v hb hv=>by
      rw [← HP.out]
      exact ⟨by rw [HN.out]; exact hb,.inr ⟨HR.out,v,rfl,by rw [hTo,hS]; exact hv⟩⟩)
     have hlay:∃ b o,(0 < S.m → a = some ⟨b,o,none⟩) ∧ RowsV wr b o S:=by
      rcases Nat.eq_zero_or_pos S.m with h0 | h0
      ·exact ⟨0,0,fun h=>by omega,fun i hi=>by omega⟩
      ·obtain ⟨b,o,e,h⟩:=hrv h0
       exact ⟨b,o,fun _=>e,h⟩
     obtain ⟨b,o,ha,hRV⟩:=hlay
     subst hSn
     have hl2:S.m ≤ 64:=by omega
     have hc:Calls Try.prog 53 #[.int .i64 (S.n:Int),.slice a rs.length cap] wr (LayPost wr S):=by rw [← hSm]; exact lay_any wr hn (by omega) ha hRV
     replace hSm:=hide hSm
     replace hTo:=hide hTo
     have HSS:=hide hS
     clear hS hrv ha hRV HJ hjk hB HF
     go_wp2_with fail
     refine hc.mono ?_
     rintro e w1 ⟨L,hav,hkv,rfl,hb1,hT,hM⟩
     clear hc
     have b2:=b1.below hb1 b1.lt
     have hNB:N < wr.heap.size:=b1.lt
     obtain ⟨B,hBB⟩:∃ B,wr.heap.size = B:=⟨_,rfl⟩
     have HAV:=hide hav
     have HKV:=hide hkv
     rw [hBB] at hNB
     obtain ⟨KK,hKK⟩:∃ KK,(allB (S.n + S.m)).length = KK:=⟨_,rfl⟩
     have HKK:=hide hKK
     have h0:SolveS KK B w1 S L KK w1:=⟨0,S.first,Nat.zero_add _,Reach.start S,hT,fun h1 h2=>by rw [← hBB]; exact hM h1 h2,Below.refl _ _⟩
     have sb2:Below N w w1:=sb1.trans (hb1.mono (Nat.le_of_lt b1.lt))
     have hBw:B ≤ w1.heap.size:=by rw [← hBB]; exact hb1.size
     clear hav hkv hM hT hBB b1 sb1 hKK
     go_wp2_with fail
     have hn1:=hf.n
     have hm1:=hf.m
     go_loopg [10] KK (fun k _ wr=>SolveS KK B w1 S L k wr)
     case atStart=>exact h0
     case round=>
      clear h0
      obtain ⟨i,u,hik,hre,hT,hM,hB⟩:=hrel
      have hi:=hre.inv
      have b3:=b2.below hB hNB
      have sb3:Below N w wr:=sb2.trans (hB.mono (Nat.le_of_lt hNB))
      have hBr:B ≤ wr.heap.size:=Nat.le_trans hBw hB.size
      go_wp2_with fail
      refine (over_any hf hi wr hT).mono ?_
      rintro e w2 ⟨hb2,⟨l,hfi,rfl⟩ | ⟨hno,k,rfl⟩⟩
      ·have b4:=b3.below hb2 b3.lt
       have sb4:Below N w w2:=sb3.trans (hb2.mono (Nat.le_of_lt b3.lt))
       have hT2:=hT.below hb2
       have hB2:Below B w1 w2:=hB.trans (hb2.mono hBr)
       have HFI:=hide hfi
       have hl:l < S.m:=hfi.1
       clear hfi
       go_wp2_with fail
       refine (way_any hf hi w2 hT2 hl).mono ?_
       rintro e w3 ⟨hb3,⟨c,hfc,rfl⟩ | ⟨hno,k,rfl⟩⟩
       ·have hc:c < S.n:=hfc.1
        have hT3:=hT2.below hb3
        have hM3:=((hM (by omega) (by omega)).below hT (by omega) (by omega) hb2).below hT2 (by omega) (by omega) hb3
        have hB3:Below B w1 w3:=hB2.trans (hb3.mono (Nat.le_trans hBr hb2.size))
        have hst:Step S u (turnT S u l c) l c:=⟨HFI.out,hfc,rfl⟩
        have hre2:=hre.step hst
        have hgk:0 < gk:=by have:=hre.lt; rw [HKK.out] at this; omega
        have ho:S.n ≤ u.told l:=HFI.out.2.1.1
        have HRE:=hide hre2
        clear hst hre2 hfc hM
        go_wp2_with fail
        refine (turn_any hf hi w3 hT3 hM3 hl hc ho).mono ?_
        rintro e w4 ⟨rfl,hT4,hM4,hb4⟩
        have hB4:=hB3.trans hb4
        go_wp2_with fail
        go_roundg (gk - 1)
        case measure=>omega
        case rel=>exact ⟨i + 1,_,by omega,HRE.out,hT4,fun _ _=>hM4,hB4⟩
       ·have HNO:=hide hno
        have b5:=b4.below hb3 b4.lt
        have sb5:Below N w w3:=sb4.trans (hb3.mono (Nat.le_of_lt b4.lt))
        have hT3:=hT2.below hb3
        clear hno
        go_wp2_with fail
        refine (why_any hf hi w3 hT3 hl HFI.out.2.1 HNO.out).mono ?_
        rintro e w4 ⟨hb4,g,hg,rfl,hat⟩
        have b6:=b5.below hb4 b5.lt
        have sb6:Below N w w4:=sb5.trans (hb4.mono (Nat.le_of_lt b5.lt))
        have HAT:=hide hat
        clear hat
        go_wp2_with fail
        refine (own_any (n:=S.m) (f:=whyK S u l S.n) w4 (fun _=>rfl) HAT.out (by omega) (fun i _=>(why_size hf hi hl i S.n (Nat.le_refl _)).z (by decide))).mono ?_
        rintro e w5 ⟨hb5,g2,hg2,rfl,hat2⟩
        have b7:=b6.below hb5 b6.lt
        have sb7:Below N w w5:=sb6.trans (hb5.mono (Nat.le_of_lt b6.lt))
        have HAT2:=hide hat2
        have hne:N ≠ g2:=by have:=b6.lt; omega
        have hNg2:N ≤ g2:=by have:=b6.lt; omega
        obtain ⟨z0,z1,zf⟩:=b7.c2
        clear hat2
        go_wp2_with fail
        refine bodyPost_ret (v:=.tuple #[.agg #[.slice none 0 0,.slice (some ⟨g2,0,none⟩) S.m S.m],.int .i64 0]) (by simp [results,Try.results27,go_sem,z0,z1]) rfl ?_
        refine HOK.out _ _ ((sb7.setCell (Nat.le_refl _) _).setCell (Nat.le_refl _) _) ⟨u,hre.last (.inr ⟨l,HFI.out,HNO.out⟩),.inr ⟨l,HFI.out,HNO.out,g2,by rw [HN.out]; exact hNg2,rfl,fun i hi=>?_⟩⟩
        exact FAt.set2 (HAT2.out i hi) b7 hne _ _
      ·have HNO:=hide hno
       have b4:=b3.below hb2 b3.lt
       have sb4:Below N w w2:=sb3.trans (hb2.mono (Nat.le_of_lt b3.lt))
       have hT2:=hT.below hb2
       have k2:=hT2.c2
       rw [HAV.out,HKV.out] at k2
       have ek:(S.n:Int) ≤ (S.n:Int) + (S.m:Int):=by omega
       have ek2:S.n ≤ S.n + S.m:=by omega
       clear hno
       go_wp2_with fail
       refine (own_any (n:=S.n) (f:=u.val) (g:=L.gv) w2 (fun _=>rfl) (fun i hi=>hT2.val i (by omega)) (by omega) (fun i hi'=>(hf.val hi (by omega)).z (by decide))).mono ?_
       rintro e w5 ⟨hb5,g2,hg2,rfl,hat2⟩
       have b7:=b4.below hb5 b4.lt
       have sb7:Below N w w5:=sb4.trans (hb5.mono (Nat.le_of_lt b4.lt))
       have HAT2:=hide hat2
       have hne:N ≠ g2:=by have:=b4.lt; omega
       have hNg2:N ≤ g2:=by have:=b4.lt; omega
       obtain ⟨z0,z1,zf⟩:=b7.c2
       clear hat2 k2
       go_wp2_with fail
       refine bodyPost_ret (v:=.tuple #[.agg #[.slice (some ⟨g2,0,none⟩) S.n S.n,.slice none 0 0],.int .i64 0]) (by simp [results,Try.results27,go_sem,z0,z1]) rfl ?_
       refine HOK.out _ _ ((sb7.setCell (Nat.le_refl _) _).setCell (Nat.le_refl _) _) ⟨u,hre.last (.inl HNO.out),.inl ⟨HNO.out,g2,by rw [HN.out]; exact hNg2,rfl,fun i hi=>?_⟩⟩
       exact FAt.set2 (HAT2.out i hi) b7 hne _ _
    ·have hj:j < rs.length:=by omega
     have ej:(j:Int) < (rs.length:Int):=by omega
     obtain ⟨b,o,rfl,hr⟩:=HX.out (by omega)
     obtain ⟨r0,rfit,rcs,m0,m1,m2,m3,mok⟩:=(hr j hj).below sb1 (Nat.le_of_eq HN.out)
     have hsz:=HS.out rs[j] (List.getElem_mem hj)
     have hln:=HL.out rs[j] (List.getElem_mem hj)
     have HBD:Hid (∀ w':World,Below N w w' → (rs[j]).right n = false → Post (.returned (.tuple #[.agg #[.slice none 0 0,.slice none 0 0],.int .i64 1])) w'):=hide (fun w' hb h=>HB.out w' hb (right_bad hj h))
     have HJ2:Hid ((rs[j]).right n = true → ∀ i (h:i < rs.length),i < j + 1 → (rs[i]).right (n:Int) = true):=hide (fun h i hi hlt=>by
      by_cases he:i = j
      ·subst he; exact h
      ·exact HJ.out i hi (by omega))
     obtain ⟨r,hrr⟩:∃ r,rs[j] = r:=⟨_,rfl⟩
     rw [hrr] at r0 rfit rcs m0 m1 m2 m3 mok hsz hln HBD HJ2
     replace hr:=hide hr
     clear hrr HJ
     obtain ⟨W2,hW2⟩:∃ W2,wr.alloc (.cells #[.slice r.at_ r.xs.length r.cap,.bool r.most.up.neg,.slice r.most.up.at_ r.most.up.ds.length r.most.up.cap,.bool r.most.dn.neg,.slice r.most.dn.at_ r.most.dn.ds.length r.most.dn.cap] 99) = W2:=⟨_,rfl⟩
     have bx:Blk W2 wr.heap.size 99 #[.slice r.at_ r.xs.length r.cap,.bool r.most.up.neg,.slice r.most.up.at_ r.most.up.ds.length r.most.up.cap,.bool r.most.dn.neg,.slice r.most.dn.at_ r.most.dn.ds.length r.most.dn.cap]:=by rw [← hW2]; exact Blk.new _ _ _
     have sb2:Below wr.heap.size wr W2:=by rw [← hW2]; exact (Below.refl _ _).alloc (Nat.le_refl _) _
     obtain ⟨gx,hgx⟩:∃ gx,wr.heap.size = gx:=⟨_,rfl⟩
     have hNg:N < wr.heap.size:=b1.lt
     have b2:=b1.below sb2 b1.lt
     have sbN:Below N w W2:=sb1.trans (sb2.mono (Nat.le_of_lt hNg))
     have sbW:Below W.heap.size W W2:=hB.trans (sb2.mono hB.size)
     replace rcs:=rcs.below sb2 (Nat.le_refl _)
     replace mok:=mok.below sb2 (Nat.le_refl _)
     rw [hgx] at bx
     have HW2:=hide hW2
     have HGX:=hide hgx
     clear hW2 hgx sb2 hB sb1 b1 hNg
     go_upto_region 7 with (fail)
     rw [HW2.out,HGX.out]
     clear HW2 HGX r0 m0 m1 m2 m3
     have x0:W2.cell? ⟨gx,0,none⟩ = some (.slice r.at_ r.xs.length r.cap):=bx.cell 0
     have x1:W2.cell? ⟨gx,1,none⟩ = some (.bool r.most.up.neg):=bx.cell 1
     have x2:W2.cell? ⟨gx,2,none⟩ = some (.slice r.most.up.at_ r.most.up.ds.length r.most.up.cap):=bx.cell 2
     have x3:W2.cell? ⟨gx,3,none⟩ = some (.bool r.most.dn.neg):=bx.cell 3
     have x4:W2.cell? ⟨gx,4,none⟩ = some (.slice r.most.dn.at_ r.most.dn.ds.length r.most.dn.cap):=bx.cell 4
     by_cases hlen:r.xs.length = n
     ·have e5:((r.xs.length:Int) != (n:Int)) = false:=by simp [hlen]
      have hlx:r.xs.length ≤ 1000:=by omega
      replace hlen:=hide hlen
      cases hf:r.most.fr with
      | false=>
       have hr2:(!r.most.fr) = true:=by rw [hf]; rfl
       have HE:Hid (r.right n = false):=hide (by unfold RRow.right; rw [hf,Bool.false_and,Bool.and_false])
       clear hf
       go_wp2_with fail
       refine (wrong_any r.most W2 mok hsz.1 hr2).mono ?_
       rintro e w2 ⟨rfl,hb2⟩
       have b3:=b2.below hb2 b2.lt
       have sbN2:=sbN.trans (hb2.mono (Nat.le_of_lt b2.lt))
       obtain ⟨z0,z1,zf⟩:=b3.c2
       clear hr2 x0 x1 x2 x3 x4
       go_wp2_with fail
       refine bodyPost_ret (v:=.tuple #[.agg #[.slice none 0 0,.slice none 0 0],.int .i64 1]) (by simp [results,Try.results27,go_sem,z0,z1]) rfl ?_
       exact HBD.out _ ((sbN2.setCell (Nat.le_refl _) _).setCell (Nat.le_refl _) _) HE.out
      | true=>
       have hr2:(!r.most.fr) = false:=by rw [hf]; rfl
       have HFM:=hide hf
       clear hf
       go_wp2_with fail
       refine (wrong_any r.most W2 mok hsz.1 hr2).mono ?_
       rintro e w2 ⟨rfl,hb2⟩
       have b3:=b2.below hb2 b2.lt
       have sbN2:=sbN.trans (hb2.mono (Nat.le_of_lt b2.lt))
       have sbW2:=sbW.trans (hb2.mono sbW.size)
       have y0:=cellB x0 hb2 (Nat.le_refl _)
       replace rcs:=rcs.below hb2 (Nat.le_refl _)
       clear hr2 x0 x1 x2 x3 x4 b2 sbN sbW
       cases hall:r.xs.all RFr.fr with
       | false=>
        have hr3:(!r.xs.all RFr.fr) = true:=by rw [hall]; rfl
        have HE:Hid (r.right n = false):=hide (by unfold RRow.right; rw [hall,Bool.and_false,Bool.and_false])
        clear hall
        go_wp2_with fail
        refine (contains_any r.at_ r.cap r.xs w2 rcs hsz.2 hlx hr3).mono ?_
        rintro e w3 ⟨rfl,hb3⟩
        have b4:=b3.below hb3 b3.lt
        have sbN3:=sbN2.trans (hb3.mono (Nat.le_of_lt b3.lt))
        obtain ⟨z0,z1,zf⟩:=b4.c2
        clear hr3 y0
        go_wp2_with fail
        refine bodyPost_ret (v:=.tuple #[.agg #[.slice none 0 0,.slice none 0 0],.int .i64 1]) (by simp [results,Try.results27,go_sem,z0,z1]) rfl ?_
        exact HBD.out _ ((sbN3.setCell (Nat.le_refl _) _).setCell (Nat.le_refl _) _) HE.out
       | true=>
        have hr3:(!r.xs.all RFr.fr) = false:=by rw [hall]; rfl
        have HE:Hid (r.right n = true):=hide (by unfold RRow.right; rw [hall,HFM.out,decide_eq_true (by have:=hlen.out; omega)]; rfl)
        clear hall
        go_wp2_with fail
        refine (contains_any r.at_ r.cap r.xs w2 rcs hsz.2 hlx hr3).mono ?_
        rintro e w3 ⟨rfl,hb3⟩
        have sbW3:=sbW2.trans (hb3.mono sbW2.size)
        clear hr3 y0
        go_wp2_with fail
        go_roundg (gk - 1)
        case measure=>omega
        case rel=>exact ⟨j + 1,by omega,by go_num,sbW3,hide (HJ2.out HE.out)⟩
     ·have e5:((r.xs.length:Int) != (n:Int)) = true:=by simp; omega
      have e6:¬(r.xs.length:Int) = (n:Int):=by omega
      have HE:Hid (r.right n = false):=hide (by unfold RRow.right; rw [decide_eq_false (by omega)]; rfl)
      obtain ⟨z0,z1,zf⟩:=b2.c2
      go_wp2_with fail
      refine bodyPost_ret (v:=.tuple #[.agg #[.slice none 0 0,.slice none 0 0],.int .i64 1]) (by simp [results,Try.results27,go_sem,z0,z1]) rfl ?_
      exact HBD.out _ ((sbN.setCell (Nat.le_refl _) _).setCell (Nat.le_refl _) _) HE.out

structure SameSys (S S':Sys):Prop where
 n:S'.n = S.n
 m:S'.m = S.m
 A:∀ i c,i < S.m → c < S.n → S'.A i c = S.A i c
 most:∀ i,i < S.m → S'.most i = S.most i
theorem SameSys.refl (S:Sys):SameSys S S:=⟨rfl,rfl,fun _ _ _ _=>rfl,fun _ _=>rfl⟩
theorem SameSys.fits {S S':Sys} (h:SameSys S S') {x:Nat → Rat} (hx:S'.Fits x):S.Fits x:=by
 intro i hi
 have h1:=hx i (by rw [h.m]; exact hi)
 rw [h.n,h.most i hi] at h1
 rw [sumR_congr (g:=fun c=>S'.A i c * x c) fun c hc=>by rw [h.A i c hi hc]]
 exact h1
theorem SameSys.never {S S':Sys} (h:SameSys S S') {y:Nat → Rat} (hy:S'.Never y):S.Never y where
 pos:=fun i hi=>hy.pos i (by rw [h.m]; exact hi)
 zero:=fun k hk=>by
  have h1:=hy.zero k (by rw [h.n]; exact hk)
  rw [h.m] at h1
  rw [← h1]
  exact sumR_congr fun i hi=>by rw [h.A i k hi hk]
 neg:=by
  have h1:=hy.neg
  rw [h.m] at h1
  rw [sumR_congr (g:=fun i=>y i * S'.most i) fun i hi=>by rw [h.most i hi]]
  exact h1
theorem why_one {S:Sys} {t:Sim} (h:Inv S t) {l0:Nat} (hl:l0 < S.m) (ho:S.Over t l0) (hno:∀ c,c < S.n → ¬S.Free t l0 c):∀ k,k ≤ S.n → whyK S t l0 k (t.told l0 - S.n) = 1
 | 0,_=>put_at _ _ _
 | k + 1,hk=>by
  rw [whyK]
  split
  ·exact why_one h hl ho hno k (by omega)
  ·rename_i hT
   have h1:=(why_neg h hno (show k < S.n by omega) hT).2
   have h2:=h.at'.apart l0 k hl (by omega)
   have h3:=ho.1
   rw [put_else _ _ (by omega)]
   exact why_one h hl ho hno k (by omega)
theorem why_sz {S:Sys} {s:Nat} (hA:∀ i c,i < S.m → c < S.n → Qn s (S.A i c)) (h1:1 ≤ s) {t:Sim} (h:Inv S t) {l:Nat} (hl:l < S.m) (i:Nat):∀ k,k ≤ S.n → Qn (szB s S.n) (whyK S t l k i)
 | 0,_=>by
  have hs:1 ≤ szB s S.n:=Nat.le_trans h1 (szB_mono (d:=0) (Nat.zero_le _))
  show Qn _ (put _ _ _ _)
  unfold put
  split
  ·exact Qn.mono Qn.one hs
  ·exact Qn.mono Qn.zero hs
 | k + 1,hk=>by
  have ih:=why_sz hA h1 h hl i k (by omega)
  rw [whyK]
  split
  ·exact ih
  ·unfold put
   split
   ·exact Qn.neg (h.size sizesQ hA hl (by omega))
   ·exact ih
def AnsQ (w w':World) (S:Sys) (k2 k1:Nat) (v:Value):Prop:=
 (∃ x,S.Fits x ∧ (∀ c,c < S.n → Qn k2 (x c)) ∧ ∃ g,w.heap.size ≤ g ∧ v = .agg #[.slice (some ⟨g,0,none⟩) S.n S.n,.slice none 0 0] ∧ ∀ c,c < S.n → FAt w' g (c * 4) (x c)) ∨
 (∃ y,S.Never y ∧ (∀ i,i < S.m → Qn k1 (y i)) ∧ 0 < S.m ∧ (∃ i,i < S.m ∧ y i = 1) ∧ ∃ g,w.heap.size ≤ g ∧ v = .agg #[.slice none 0 0,.slice (some ⟨g,0,none⟩) S.m S.m] ∧ ∀ i,i < S.m → FAt w' g (i * 4) (y i))
theorem AnsV.q {w w':World} {S S':Sys} {s M:Nat} {v:Value} (h:AnsV w w' S' v) (he:SameSys S S') (hs:1 ≤ s) (hM1:1 ≤ M) (hA:∀ i c,i < S.m → c < S.n → Qn s (S.A i c)) (hM:∀ i,i < S.m → Qn M (S.most i)):AnsQ w w' S (S.n * (szB s S.n + M + 1) + M + 1) (szB s S.n) v:=by
 have hA':∀ i c,i < S'.m → c < S'.n → Qn s (S'.A i c):=fun i c hi hc=>by rw [he.m] at hi; rw [he.n] at hc; rw [he.A i c hi hc]; exact hA i c hi hc
 have hM':∀ i,i < S'.m → Qn M (S'.most i):=fun i hi=>by rw [he.m] at hi; rw [he.most i hi]; exact hM i hi
 obtain ⟨u,hu,⟨hno,g,hg,rfl,hat⟩ | ⟨l0,hf,hfr,g,hg,rfl,hat⟩⟩:=h
 ·refine .inl ⟨u.val,he.fits (hu.inv.fits hno),fun c hc=>?_,g,hg,by rw [he.n],fun c hc=>hat c (by rw [he.n]; exact hc)⟩
  have h1:=hu.inv.valSize sizesQ hA' hM' hM1 (v:=c) (by rw [he.n]; omega)
  rw [he.n] at h1
  exact h1
 ·have hl:l0 < S'.m:=hf.1
  have ho:=hf.2.1
  refine .inr ⟨whyK S' u l0 S'.n,he.never (why_never hu.inv hl ho hfr),fun i hi=>?_,by rw [← he.m]; omega,⟨u.told l0 - S'.n,?_,why_one hu.inv hl ho hfr _ (Nat.le_refl _)⟩,g,hg,by rw [he.m],fun i hi=>hat i (by rw [he.m]; exact hi)⟩
  ·have:=why_sz hA' hs hu.inv hl i S'.n (Nat.le_refl _)
   rw [he.n] at this ⊢
   exact this
  ·have h1:=hu.inv.at'.toldLt l0 hl
   have h2:=ho.1
   rw [← he.m]
   omega
end Go.Proofs.Ytphjffbldhhdiaa
