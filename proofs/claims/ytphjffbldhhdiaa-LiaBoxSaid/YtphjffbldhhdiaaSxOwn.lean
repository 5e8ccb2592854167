/- simplex's way: by its contract. -/
import Derived.Test.YtphjffbldhhdiaaSxOver
import Derived.Maps.AppendAt
namespace Go.Proofs.Ytphjffbldhhdiaa
open Go.RowKit

theorem sign_at {c:World} {p:Rat} {u:Value} {C:Int} (hx:FracV c u p) (hp:Qz p) (hC:ordQ p 0 = C):Calls Try.prog 75 #[u] c fun e w'=>e = .returned (.int .i64 C) ∧ Below c.heap.size c w':=by
 subst hC; exact sign_any c hx hp

theorem ordQ_neg0 (p q:Rat):ordQ p q < 0 ↔ p < q:=by
 rw [ordQ_eq]
 constructor
 ·intro h
  split at h
  ·assumption
  ·split at h <;> omega
 ·intro h
  rw [if_pos h]
  decide

set_option maxRecDepth 100000 in
set_option maxHeartbeats 3200000 in
theorem way1_any {S:Sys} {s M:Nat} (hf:Fair S s M) {t:Sim} (hi:Inv S t) {L:Spots} {bx by_ l c:Nat} {w:World} (hT:TabV w S t L) (hb:w.cell? ⟨bx,0,none⟩ = some (.pointer (some ⟨L.p,0,none⟩))) (hb2:w.cell? ⟨by_,0,none⟩ = some (.int .i64 (l:Int))) (hl:l < S.m) (hc:c < S.n) {r:Bool} (hr:r = true ↔ S.Free t l c) :
  Calls Try.prog 74 #[.int .i64 (c:Int),.pointer (some ⟨bx,0,none⟩),.pointer (some ⟨by_,0,none⟩)] w fun e w'=>e = .returned (.bool r) ∧ Below w.heap.size w w':=by
 obtain ⟨hn,hm⟩:=And.intro hf.n hf.m
 have hk:=hT.col c hc
 have hv:=hi.at'.colLt c hc
 have k4:=hT.c4
 rw [hT.ac (by omega)] at k4
 have k5:=hT.c5
 rw [hT.ax (by omega)] at k5
 have kr:=hT.rows l hl
 rw [hT.ra l hl (by omega)] at kr
 have k0:=hT.c0
 obtain ⟨xn,xa,xl,xk,xm,xb,xi,xj,x0,x1,x2,x3,hx⟩:=hT.T l c hl hc
 have zx:Qz (t.T l c):=(hf.T hi hl hc).z (by decide)
 have HR:=hide hr
 clear hr
 have cl:(l:Int) < (S.m:Int):=by omega
 have cc:(c:Int) < (S.n:Int):=by omega
 obtain ⟨C,hC⟩:∃ C,ordQ (t.T l c) 0 = C:=⟨_,rfl⟩
 have HC:=hide hC
 clear hC
 have hS0:w.cell? ⟨bx,0,none⟩ = some (.pointer (some ⟨L.p,0,none⟩)) ∧ w.cell? ⟨by_,0,none⟩ = some (.int .i64 (l:Int)) ∧ w.cell? ⟨L.p,0,none⟩ = some (.int .i64 (S.n:Int)) ∧ w.cell? ⟨L.p,4,none⟩ = some (.slice (some ⟨L.gc,0,none⟩) S.n L.kc) ∧ w.cell? ⟨L.gc,c,none⟩ = some (.int .i64 (t.col c:Int)) ∧ w.cell? ⟨L.p,5,none⟩ = some (.slice (some ⟨L.gx,0,none⟩) S.m L.kx) ∧ w.cell? ⟨L.gx,l,none⟩ = some (.slice (some ⟨L.row l,0,none⟩) S.n (L.rk l)) ∧ w.cell? ⟨L.row l,c * 4,none⟩ = some (.bool xn) ∧ w.cell? ⟨L.row l,c * 4 + 1,none⟩ = some (.slice xa xl xk) ∧ w.cell? ⟨L.row l,c * 4 + 2,none⟩ = some (.bool xm) ∧ w.cell? ⟨L.row l,c * 4 + 3,none⟩ = some (.slice xb xi xj) ∧ w.cell? ⟨bx,0,none⟩ = some (.pointer (some ⟨L.p,0,none⟩)) ∧ Below w.heap.size w w.drew:=⟨hb,hb2,k0,k4,hk,k5,kr,x0,x1,x2,x3,hb,(Below.refl _ _).drew⟩
 clear hb hb2 k0 k4 hk k5 kr x0 x1 x2 x3
 go_enter Try.func74,Try.ntmps74
 go_upto_region 1 with (fail)
 refine wp_region_held_drew (S:=fun w'=>w'.cell? ⟨bx,0,none⟩ = some (.pointer (some ⟨L.p,0,none⟩)) ∧ w'.cell? ⟨by_,0,none⟩ = some (.int .i64 (l:Int)) ∧ w'.cell? ⟨L.p,0,none⟩ = some (.int .i64 (S.n:Int)) ∧ w'.cell? ⟨L.p,4,none⟩ = some (.slice (some ⟨L.gc,0,none⟩) S.n L.kc) ∧ w'.cell? ⟨L.gc,c,none⟩ = some (.int .i64 (t.col c:Int)) ∧ w'.cell? ⟨L.p,5,none⟩ = some (.slice (some ⟨L.gx,0,none⟩) S.m L.kx) ∧ w'.cell? ⟨L.gx,l,none⟩ = some (.slice (some ⟨L.row l,0,none⟩) S.n (L.rk l)) ∧ w'.cell? ⟨L.row l,c * 4,none⟩ = some (.bool xn) ∧ w'.cell? ⟨L.row l,c * 4 + 1,none⟩ = some (.slice xa xl xk) ∧ w'.cell? ⟨L.row l,c * 4 + 2,none⟩ = some (.bool xm) ∧ w'.cell? ⟨L.row l,c * 4 + 3,none⟩ = some (.slice xb xi xj) ∧ w'.cell? ⟨bx,0,none⟩ = some (.pointer (some ⟨L.p,0,none⟩)) ∧ Below w.heap.size w w') (by kernel_rfl) (hS0) (fun hS=>?_)
 refine tkH 0 ⟨some 7,.load 101 (.tmp 1),101,"simplex.go:112",#[],none⟩ hS ?_
 try simp only [Act.put,sB,sC,sD]
 refine tkH 1 ⟨some 8,.nilCheck (.tmp 7),0,"simplex.go:112",#[eD 0],none⟩ hS ?_
 try simp only [Act.put,sB,sC,sD]
 refine tkH 2 ⟨some 9,.fieldAddr 108 (.tmp 8) 4,0,"simplex.go:112",#[eD 1],none⟩ hS ?_
 try simp only [Act.put,sB,sC,sD]
 refine tkH 3 ⟨some 10,.load 26 (.tmp 9),26,"simplex.go:112",#[eD 2],none⟩ hS ?_
 try simp only [Act.put,sB,sC,sD]
 refine tkH 4 ⟨some 11,.move (.tmp 0),3,"simplex.go:112",#[],none⟩ hS ?_
 try simp only [Act.put,sB,sC,sD]
 refine tkH 5 ⟨some 12,.indexAddr 26 (.tmp 10) (.tmp 11),0,"simplex.go:112",#[eD 3,eD 4],none⟩ hS ?_
 try simp only [Act.put,sB,sC,sD]
 refine tkH 6 ⟨some 13,.load 3 (.tmp 12),3,"simplex.go:112",#[eD 5],none⟩ hS ?_
 try simp only [Act.put,sB,sC,sD]
 refine tkH 7 ⟨some 14,.load 101 (.tmp 1),101,"simplex.go:112",#[],none⟩ hS ?_
 try simp only [Act.put,sB,sC,sD]
 refine tkH 8 ⟨some 15,.nilCheck (.tmp 14),0,"simplex.go:112",#[eD 7],none⟩ hS ?_
 try simp only [Act.put,sB,sC,sD]
 refine tkH 9 ⟨some 16,.fieldAddr 108 (.tmp 15) 5,0,"simplex.go:112",#[eD 8],none⟩ hS ?_
 try simp only [Act.put,sB,sC,sD]
 refine tkH 10 ⟨some 17,.load 106 (.tmp 16),106,"simplex.go:112",#[eD 9],none⟩ hS ?_
 try simp only [Act.put,sB,sC,sD]
 refine tkH 11 ⟨some 18,.load 3 (.tmp 2),3,"simplex.go:112",#[],none⟩ hS ?_
 try simp only [Act.put,sB,sC,sD]
 refine tkH 12 ⟨some 19,.indexAddr 106 (.tmp 17) (.tmp 18),0,"simplex.go:112",#[eD 10,eD 11],none⟩ hS ?_
 try simp only [Act.put,sB,sC,sD]
 refine tkH 13 ⟨some 20,.load 61 (.tmp 19),61,"simplex.go:112",#[eD 12],none⟩ hS ?_
 try simp only [Act.put,sB,sC,sD]
 refine tkH 14 ⟨some 21,.move (.tmp 0),3,"simplex.go:112",#[],none⟩ hS ?_
 try simp only [Act.put,sB,sC,sD]
 refine tkH 15 ⟨some 22,.indexAddr 61 (.tmp 20) (.tmp 21),0,"simplex.go:112",#[eD 13,eD 14],none⟩ hS ?_
 try simp only [Act.put,sB,sC,sD]
 refine tkH 16 ⟨some 23,.load 71 (.tmp 22),71,"simplex.go:112",#[eD 15],none⟩ hS ?_
 try simp only [Act.put,sB,sC,sD]
 refine wpAnyH_ready (rs:=[17]) (by kernel_rfl) (by simp) ?_
 refine AllReadyH.cons (o:=⟨some 24,.call { callee:=.value (.func 75),args:=#[.tmp 23],argTypes:=#[71] },3,"simplex.go:112",#[eD 16],none⟩) rfl (fun K hK=>?_) AllReadyH.nil
 go_simp
 (go_at_call 75; (with_reducible refine (sign_at (hx.below (hS.2.2.2.2.2.2.2.2.2.2.2.2) (Nat.le_refl _)) zx HC.out).mono ?_); rintro e wn ⟨rfl,hb1⟩)
 go_wp2_with fail
 refine hK.out _ _ (keepZ12 hS hb1) (fun hS=>?_)
 clear hK K hb1
 try simp only [Act.put,sB,sC,sD]
 refine tkH 18 ⟨some 5,.assign (.tmp 13),3,"simplex.go:112",#[eD 6,eC 17,eP 0,eP 1,eP 2,eP 3,eP 4,eP 5,eP 6,{ on:=7,ground:=Ground.textOnly Departure.lateStores },{ on:=8,ground:=Ground.textOnly Departure.lateStores },{ on:=9,ground:=Ground.textOnly Departure.lateStores },{ on:=10,ground:=Ground.textOnly Departure.lateStores },{ on:=11,ground:=Ground.textOnly Departure.lateStores },{ on:=12,ground:=Ground.textOnly Departure.lateStores },{ on:=13,ground:=Ground.textOnly Departure.lateStores },{ on:=14,ground:=Ground.textOnly Departure.lateStores },{ on:=15,ground:=Ground.textOnly Departure.lateStores },{ on:=16,ground:=Ground.textOnly Departure.lateStores },{ on:=17,ground:=Ground.textOnly Departure.lateStoresUnsure }],none⟩ hS ?_
 try simp only [Act.put,sB,sC,sD]
 refine tkH 19 ⟨some 6,.assign (.tmp 24),3,"simplex.go:112",#[eD 17,eC 18,eP 0,eP 1,eP 2,eP 3,eP 4,eP 5,eP 6,eP 7,eP 8,eP 9,eP 10,eP 11,eP 12,eP 13,eP 14,eP 15,eP 16,eP 17,eP 18],none⟩ hS ?_
 try simp only [Act.put,sB,sC,sD]
 refine wpAnyH_done (by kernel_rfl) ?_ _
 obtain ⟨hb,-,k0,-,-,-,-,-,-,-,-,-,hB⟩:=hS
 have hT2:=hT.below hB
 rcases ordQ_cases (t.T l c) 0 with ⟨h1,h2⟩ | ⟨h1,h2⟩ | ⟨h1,h2⟩
 ·obtain rfl:C = -1:=HC.out.symm.trans h2
  rcases Nat.lt_or_ge (t.col c) S.n with hlt | hge
  ·obtain rfl:r = true:=HR.out.mpr (by unfold Sys.Free; rw [if_pos (.inr hlt)]; grind)
   have e1:decide ((t.col c:Int) < (S.n:Int)) = true:=decide_eq_true (by omega)
   have e2:(t.col c:Int) < (S.n:Int):=by omega
   clear HR HC hT hT2 hi hf
   go_wp2_with fail
   go_ret
   exact ⟨rfl,hB⟩
  ·obtain ⟨D,he⟩:∃ D,t.col c = S.n + D:=⟨t.col c - S.n,by omega⟩
   have hD:D < S.m:=by omega
   have k1:=hT2.c1
   have k2:=hT2.c2
   rw [hT.am (by omega)] at k1
   rw [hT.av (by omega)] at k2
   obtain ⟨yn,ya,yl,yk,ym,yb,yi,yj,y0,y1,y2,y3,hy⟩:=hT2.val (S.n + D) (by omega)
   obtain ⟨un,ua,ul,uk,um,ub,ui,uj,u0,u1,u2,u3,hu⟩:=hT2.most D hD
   have zy:Qz (t.val (S.n + D)):=(hf.val hi (by omega)).z (by decide)
   have zu:Qz (S.most D):=(hf.mostZ hD).z (by decide)
   obtain ⟨E,hE⟩:∃ E,ordQ (t.val (S.n + D)) (S.most D) = E:=⟨_,rfl⟩
   have HRR:Hid (r = decide (E < 0)):=hide (by
    rw [Bool.eq_iff_iff,HR.out,decide_eq_true_iff,← hE]
    unfold Sys.Free
    rw [if_neg (by intro h; rcases h with h | h; grind; omega),he,show S.n + D - S.n = D from by omega]
    exact (ordQ_neg0 _ _).symm)
   have HE:=hide hE
   clear HR HC hE
   have hrr:=HRR.out
   clear HRR
   subst hrr
   rw [← he] at y0 y1 y2 y3
   generalize t.col c = v at *
   generalize t.val (S.n + D) = Y at *
   generalize S.most D = U at *
   generalize S.n = n at *
   generalize S.m = m at *
   clear hT hT2 hi hf
   have e1:decide ((v:Int) < (n:Int)) = false:=decide_eq_false (by omega)
   have e2:¬((v:Int) < (n:Int)):=by omega
   have e4:(v:Int) - (n:Int) = (D:Int):=by omega
   have e5:(v:Int) < (n:Int) + (m:Int):=by omega
   have e6:(D:Int) < (m:Int):=by omega
   have e7:IntKind.i64.wrap (D:Int) = (D:Int):=IntWalk.i64_in _ (by omega)
   replace he:=hide he
   clear h1 h2
   go_upto_region 4 with (fail)
   have hS0:wn.cell? ⟨bx,0,none⟩ = some (.pointer (some ⟨L.p,0,none⟩)) ∧ wn.cell? ⟨L.p,0,none⟩ = some (.int .i64 (n:Int)) ∧ wn.cell? ⟨L.p,1,none⟩ = some (.slice (some ⟨L.gm,0,none⟩) m L.km) ∧ wn.cell? ⟨L.p,2,none⟩ = some (.slice (some ⟨L.gv,0,none⟩) (n + m) L.kv) ∧ wn.cell? ⟨L.gv,v * 4,none⟩ = some (.bool yn) ∧ wn.cell? ⟨L.gv,v * 4 + 1,none⟩ = some (.slice ya yl yk) ∧ wn.cell? ⟨L.gv,v * 4 + 2,none⟩ = some (.bool ym) ∧ wn.cell? ⟨L.gv,v * 4 + 3,none⟩ = some (.slice yb yi yj) ∧ wn.cell? ⟨L.gm,D * 4,none⟩ = some (.bool un) ∧ wn.cell? ⟨L.gm,D * 4 + 1,none⟩ = some (.slice ua ul uk) ∧ wn.cell? ⟨L.gm,D * 4 + 2,none⟩ = some (.bool um) ∧ wn.cell? ⟨L.gm,D * 4 + 3,none⟩ = some (.slice ub ui uj) ∧ Below wn.heap.size wn wn.drew:=⟨hb,k0,k1,k2,y0,y1,y2,y3,u0,u1,u2,u3,(Below.refl _ _).drew⟩
   clear hb k0 k1 k2 y0 y1 y2 y3 u0 u1 u2 u3
   refine wp_region_held_drew (S:=fun w'=>w'.cell? ⟨bx,0,none⟩ = some (.pointer (some ⟨L.p,0,none⟩)) ∧ w'.cell? ⟨L.p,0,none⟩ = some (.int .i64 (n:Int)) ∧ w'.cell? ⟨L.p,1,none⟩ = some (.slice (some ⟨L.gm,0,none⟩) m L.km) ∧ w'.cell? ⟨L.p,2,none⟩ = some (.slice (some ⟨L.gv,0,none⟩) (n + m) L.kv) ∧ w'.cell? ⟨L.gv,v * 4,none⟩ = some (.bool yn) ∧ w'.cell? ⟨L.gv,v * 4 + 1,none⟩ = some (.slice ya yl yk) ∧ w'.cell? ⟨L.gv,v * 4 + 2,none⟩ = some (.bool ym) ∧ w'.cell? ⟨L.gv,v * 4 + 3,none⟩ = some (.slice yb yi yj) ∧ w'.cell? ⟨L.gm,D * 4,none⟩ = some (.bool un) ∧ w'.cell? ⟨L.gm,D * 4 + 1,none⟩ = some (.slice ua ul uk) ∧ w'.cell? ⟨L.gm,D * 4 + 2,none⟩ = some (.bool um) ∧ w'.cell? ⟨L.gm,D * 4 + 3,none⟩ = some (.slice ub ui uj) ∧ Below wn.heap.size wn w') (by kernel_rfl) (hS0) (fun hS=>?_)
   refine tkH 0 ⟨some 37,.load 101 (.tmp 1),101,"simplex.go:116",#[],none⟩ hS ?_
   try simp only [Act.put,sB,sC,sD]
   refine tkH 1 ⟨some 38,.nilCheck (.tmp 37),0,"simplex.go:116",#[eD 0],none⟩ hS ?_
   try simp only [Act.put,sB,sC,sD]
   refine tkH 2 ⟨some 39,.fieldAddr 108 (.tmp 38) 2,0,"simplex.go:116",#[eD 1],none⟩ hS ?_
   try simp only [Act.put,sB,sC,sD]
   refine tkH 3 ⟨some 40,.load 61 (.tmp 39),61,"simplex.go:116",#[eD 2],none⟩ hS ?_
   try simp only [Act.put,sB,sC,sD]
   refine tkH 4 ⟨some 41,.move (.tmp 5),3,"simplex.go:116",#[],none⟩ hS ?_
   try simp only [Act.put,sB,sC,sD]
   refine tkH 5 ⟨some 42,.indexAddr 61 (.tmp 40) (.tmp 41),0,"simplex.go:116",#[eD 3,eD 4],none⟩ hS ?_
   try simp only [Act.put,sB,sC,sD]
   refine tkH 6 ⟨some 43,.load 71 (.tmp 42),71,"simplex.go:116",#[eD 5],none⟩ hS ?_
   try simp only [Act.put,sB,sC,sD]
   refine tkH 7 ⟨some 44,.load 101 (.tmp 1),101,"simplex.go:116",#[],none⟩ hS ?_
   try simp only [Act.put,sB,sC,sD]
   refine tkH 8 ⟨some 45,.nilCheck (.tmp 44),0,"simplex.go:116",#[eD 7],none⟩ hS ?_
   try simp only [Act.put,sB,sC,sD]
   refine tkH 9 ⟨some 46,.fieldAddr 108 (.tmp 45) 1,0,"simplex.go:116",#[eD 8],none⟩ hS ?_
   try simp only [Act.put,sB,sC,sD]
   refine tkH 10 ⟨some 47,.load 61 (.tmp 46),61,"simplex.go:116",#[eD 9],none⟩ hS ?_
   try simp only [Act.put,sB,sC,sD]
   refine tkH 11 ⟨some 48,.move (.tmp 5),3,"simplex.go:116",#[],none⟩ hS ?_
   try simp only [Act.put,sB,sC,sD]
   refine tkH 12 ⟨some 49,.load 101 (.tmp 1),101,"simplex.go:116",#[],none⟩ hS ?_
   try simp only [Act.put,sB,sC,sD]
   refine tkH 13 ⟨some 50,.nilCheck (.tmp 49),0,"simplex.go:116",#[eD 12],none⟩ hS ?_
   try simp only [Act.put,sB,sC,sD]
   refine tkH 14 ⟨some 51,.fieldAddr 108 (.tmp 50) 0,0,"simplex.go:116",#[eD 13],none⟩ hS ?_
   try simp only [Act.put,sB,sC,sD]
   refine tkH 15 ⟨some 52,.load 3 (.tmp 51),3,"simplex.go:116",#[eD 14],none⟩ hS ?_
   try simp only [Act.put,sB,sC,sD]
   refine tkH 16 ⟨some 53,.binOp .sub 3 (.tmp 48) (.tmp 52) 3,3,"simplex.go:116",#[eD 11,eD 15],none⟩ hS ?_
   try simp only [Act.put,sB,sC,sD]
   refine tkH 17 ⟨some 54,.indexAddr 61 (.tmp 47) (.tmp 53),0,"simplex.go:116",#[eD 10,eD 16],none⟩ hS ?_
   try simp only [Act.put,sB,sC,sD]
   refine tkH 18 ⟨some 55,.load 71 (.tmp 54),71,"simplex.go:116",#[eD 17],none⟩ hS ?_
   try simp only [Act.put,sB,sC,sD]
   refine wpAnyH_ready (rs:=[19]) (by kernel_rfl) (by simp) ?_
   refine AllReadyH.cons (o:=⟨some 56,.call { callee:=.value (.func 61),args:=#[.tmp 43,.tmp 55],argTypes:=#[71,71] },3,"simplex.go:116",#[eD 6,eD 18],none⟩) rfl (fun K hK=>?_) AllReadyH.nil
   go_simp
   (go_at_call 61; (with_reducible refine (FCmp_at (hy.below (hS.2.2.2.2.2.2.2.2.2.2.2.2) (Nat.le_refl _)) (hu.below (hS.2.2.2.2.2.2.2.2.2.2.2.2) (Nat.le_refl _)) zy zu HE.out).mono ?_); rintro e wn2 ⟨rfl,hb1⟩)
   go_wp2_with fail
   refine hK.out _ _ (keepZ12 hS hb1) (fun hS=>?_)
   clear hK K hb1
   try simp only [Act.put,sB,sC,sD]
   refine tkH 20 ⟨some 57,.binOp .lss 3 (.tmp 56) (.const (.int .i64 0)) 3,4,"simplex.go:116",#[eD 19],none⟩ hS ?_
   try simp only [Act.put,sB,sC,sD]
   refine tkH 21 ⟨some 4,.assign (.tmp 57),4,"simplex.go:116",#[eD 20,eC 19,eP 0,eP 1,eP 2,eP 3,eP 4,eP 5,eP 6,eP 7,eP 8,eP 9,eP 10,eP 11,eP 12,eP 13,eP 14,eP 15,eP 16,eP 17,eP 18,eP 19,eP 20],none⟩ hS ?_
   try simp only [Act.put,sB,sC,sD]
   refine wpAnyH_done (by kernel_rfl) ?_ _
   have hB2:=hB.trans (hS.2.2.2.2.2.2.2.2.2.2.2.2.mono hB.size)
   go_wp2_with fail
   go_ret
   exact ⟨rfl,hB2⟩
 ·obtain rfl:C = 0:=HC.out.symm.trans h2
  obtain rfl:r = false:=Bool.eq_false_iff.mpr fun h=>by
   have h3:=HR.out.mp h
   unfold Sys.Free at h3
   rw [if_pos (.inl (by grind))] at h3
   exact h3 h1
  clear HR HC hT hT2 hi hf h1 h2
  go_wp2_with fail
  go_ret
  exact ⟨rfl,hB⟩
 ·obtain rfl:C = 1:=HC.out.symm.trans h2
  obtain rfl:r = true:=HR.out.mpr (by unfold Sys.Free; rw [if_pos (.inl (by grind))]; grind)
  clear HR HC hT hT2 hi hf h1 h2
  go_wp2_with fail
  go_ret
  exact ⟨rfl,hB⟩
set_option maxRecDepth 100000 in
set_option maxHeartbeats 3200000 in
theorem way_any {S:Sys} {s M:Nat} (hf:Fair S s M) {t:Sim} (hi:Inv S t) {L:Spots} {l:Nat} (w:World) (hT:TabV w S t L) (hl:l < S.m) :
  Calls Try.prog 56 #[.pointer (some ⟨L.p,0,none⟩),.int .i64 (l:Int)] w (FirstPost w S.n (S.Free t l) t.col):=by
 generalize hP:FirstPost w S.n (S.Free t l) t.col = Post
 have HP:=hide hP
 clear hP
 obtain ⟨W,hW⟩:∃ W,(w.alloc (.cells #[.pointer (some ⟨L.p,0,none⟩)] 101)).alloc (.cells #[.int .i64 (l:Int)] 3) = W:=⟨_,rfl⟩
 have bx:Blk W w.heap.size 101 #[.pointer (some ⟨L.p,0,none⟩)]:=by rw [← hW]; exact (Blk.new w _ _).alloc _
 have by_:Blk W (w.heap.size + 1) 3 #[.int .i64 (l:Int)]:=by rw [← hW]; exact Blk.new_at _ _ _ (by simp)
 have sb:Below w.heap.size w W:=by rw [← hW]; exact ((Below.refl w.heap.size w).alloc (Nat.le_refl _) _).alloc (by simp) _
 have HW:=hide hW
 clear hW
 have b0:W.cell? ⟨w.heap.size,0,none⟩ = some (.pointer (some ⟨L.p,0,none⟩)):=bx.cell 0
 have b1:W.cell? ⟨w.heap.size + 1,0,none⟩ = some (.int .i64 (l:Int)):=by_.cell 0
 clear bx by_
 have hT1:=hT.below sb
 have k3:=hT1.c4
 go_enter Try.func56,Try.ntmps56
 go_upto_region 1 with (fail)
 rw [HW.out]
 clear HW
 go_wp2_with fail
 have hn:=hf.n
 have hm:=hf.m
 go_loopg [7,8,16] S.n (fun k v5 v6 v14 wr=>∃ j:Nat,j + k = S.n ∧ v14 = .int .i64 (j:Int) ∧ Hid (FirstSo j (S.Free t l) t.col v5 v6) ∧ Below W.heap.size W wr)
 case atStart=>exact ⟨0,by omega,rfl,hide (.inl ⟨rfl,rfl,fun l h=>absurd h (Nat.not_lt_zero _)⟩),Below.refl _ _⟩
 case round=>
  obtain ⟨j,hjk,rfl,HF,hB⟩:=hrel
  have hT2:=hT1.below hB
  rcases Nat.eq_zero_or_pos gk with h0 | h0
  ·subst h0
   obtain rfl:j = S.n:=by omega
   have sb1:=sb.trans (hB.mono sb.size)
   rcases HF.out with ⟨rfl,rfl,hno⟩ | ⟨b,rfl,rfl,hfi⟩
   ·go_wp2_with fail
    rw [← HP.out]
    exact ⟨sb1,.inr ⟨hno,0,rfl⟩⟩
   ·go_wp2_with fail
    rw [← HP.out]
    exact ⟨sb1,.inl ⟨b,hfi,rfl⟩⟩
  ·have hj:j < S.n:=by omega
   have ea:=hT.ac (by omega)
   have kj:=hT2.col j hj
   have k3':=hT2.c4
   rw [ea] at k3'
   clear ea
   have b0':=cellB b0 hB (Nat.le_refl _)
   have b1':=cellB b1 hB (Nat.le_refl _)
   have ej:(j:Int) < (S.n:Int):=by omega
   rcases HF.out with ⟨rfl,rfl,hno⟩ | ⟨b,rfl,rfl,hfi⟩
   ·have hS0:wr.cell? ⟨w.heap.size,0,none⟩ = some (.pointer (some ⟨L.p,0,none⟩)) ∧ wr.cell? ⟨L.p,4,none⟩ = some (.slice (some ⟨L.gc,0,none⟩) S.n L.kc) ∧ wr.cell? ⟨L.gc,j,none⟩ = some (.int .i64 (t.col j:Int)) ∧ wr.cell? ⟨L.gc,j,none⟩ = some (.int .i64 (t.col j:Int)) ∧ Below W.heap.size W wr.drew:=⟨b0',k3',kj,kj,hB.drew⟩
    by_cases ho:S.Free t l j
    ·have HN:Hid (FirstSo (j + 1) (S.Free t l) t.col (.int .i64 (j:Int)) (.bool true)):=hide (.inr ⟨j,rfl,rfl,First.new ho fun i hi hp=>absurd hp (hno i hi)⟩)
     have HO:Hid (true = true ↔ S.Free t l j):=hide ⟨fun _=>ho,fun _=>rfl⟩
     clear hno ho
     go_upto_region 6 with (fail)
     refine wp_region_held_drew (S:=fun w'=>w'.cell? ⟨w.heap.size,0,none⟩ = some (.pointer (some ⟨L.p,0,none⟩)) ∧ w'.cell? ⟨L.p,4,none⟩ = some (.slice (some ⟨L.gc,0,none⟩) S.n L.kc) ∧ w'.cell? ⟨L.gc,j,none⟩ = some (.int .i64 (t.col j:Int)) ∧ w'.cell? ⟨L.gc,j,none⟩ = some (.int .i64 (t.col j:Int)) ∧ Below W.heap.size W w') (by kernel_rfl) (hS0) (fun hS=>?_)
     refine tkH 0 ⟨some 19,.move (.tmp 8),4,"simplex.go:120",#[],none⟩ hS ?_
     try simp only [Act.put,sB,sC,sD]
     refine tkH 1 ⟨some 20,.unOp .not 4 (.tmp 19),4,"simplex.go:120",#[eD 0],none⟩ hS ?_
     try simp only [Act.put,sB,sC,sD]
     refine tkH 2 ⟨some 21,.move (.tmp 20),4,"simplex.go:120",#[eD 1],none⟩ hS ?_
     try simp only [Act.put,sB,sC,sD]
     refine wpAnyH_take (i:=3) (oi:=⟨some 22,.load 101 (.tmp 2),101,"simplex.go:120",#[eG 2],some (2,false)⟩) (v:=undef) rfl (by kernel_rfl) (by kernel_rfl) (by kernel_rfl) (fun _ _ _ h=>h) (Or.inr ⟨by rfl,rfl⟩) hS ?_
     try simp only [Act.put,sB,sC,sD]
     refine wpAnyH_take (i:=4) (oi:=⟨some 23,.nilCheck (.tmp 22),0,"simplex.go:120",#[eD 3,eG 2],some (2,false)⟩) (v:=undef) rfl (by kernel_rfl) (by kernel_rfl) (by kernel_rfl) (fun _ _ _ h=>h) (Or.inr ⟨by rfl,rfl⟩) hS ?_
     try simp only [Act.put,sB,sC,sD]
     refine wpAnyH_take (i:=5) (oi:=⟨some 24,.fieldAddr 108 (.tmp 23) 4,0,"simplex.go:120",#[eD 4,eG 2],some (2,false)⟩) (v:=undef) rfl (by kernel_rfl) (by kernel_rfl) (by kernel_rfl) (fun _ _ _ h=>h) (Or.inr ⟨by rfl,rfl⟩) hS ?_
     try simp only [Act.put,sB,sC,sD]
     refine wpAnyH_take (i:=6) (oi:=⟨some 25,.load 26 (.tmp 24),26,"simplex.go:120",#[eD 5,eG 2],some (2,false)⟩) (v:=undef) rfl (by kernel_rfl) (by kernel_rfl) (by kernel_rfl) (fun _ _ _ h=>h) (Or.inr ⟨by rfl,rfl⟩) hS ?_
     try simp only [Act.put,sB,sC,sD]
     refine wpAnyH_take (i:=7) (oi:=⟨some 26,.move (.tmp 9),3,"simplex.go:120",#[eG 2],some (2,false)⟩) (v:=undef) rfl (by kernel_rfl) (by kernel_rfl) (by kernel_rfl) (fun _ _ _ h=>h) (Or.inr ⟨by rfl,rfl⟩) hS ?_
     try simp only [Act.put,sB,sC,sD]
     refine wpAnyH_take (i:=8) (oi:=⟨some 27,.indexAddr 26 (.tmp 25) (.tmp 26),0,"simplex.go:120",#[eD 6,eD 7,eG 2],some (2,false)⟩) (v:=undef) rfl (by kernel_rfl) (by kernel_rfl) (by kernel_rfl) (fun _ _ _ h=>h) (Or.inr ⟨by rfl,rfl⟩) hS ?_
     try simp only [Act.put,sB,sC,sD]
     refine wpAnyH_take (i:=9) (oi:=⟨some 28,.load 3 (.tmp 27),3,"simplex.go:120",#[eD 8,eG 2],some (2,false)⟩) (v:=undef) rfl (by kernel_rfl) (by kernel_rfl) (by kernel_rfl) (fun _ _ _ h=>h) (Or.inr ⟨by rfl,rfl⟩) hS ?_
     try simp only [Act.put,sB,sC,sD]
     refine wpAnyH_take (i:=10) (oi:=⟨some 29,.load 101 (.tmp 2),101,"simplex.go:120",#[eG 2],some (2,false)⟩) (v:=undef) rfl (by kernel_rfl) (by kernel_rfl) (by kernel_rfl) (fun _ _ _ h=>h) (Or.inr ⟨by rfl,rfl⟩) hS ?_
     try simp only [Act.put,sB,sC,sD]
     refine wpAnyH_take (i:=11) (oi:=⟨some 30,.nilCheck (.tmp 29),0,"simplex.go:120",#[eD 10,eG 2],some (2,false)⟩) (v:=undef) rfl (by kernel_rfl) (by kernel_rfl) (by kernel_rfl) (fun _ _ _ h=>h) (Or.inr ⟨by rfl,rfl⟩) hS ?_
     try simp only [Act.put,sB,sC,sD]
     refine wpAnyH_take (i:=12) (oi:=⟨some 31,.fieldAddr 108 (.tmp 30) 4,0,"simplex.go:120",#[eD 11,eG 2],some (2,false)⟩) (v:=undef) rfl (by kernel_rfl) (by kernel_rfl) (by kernel_rfl) (fun _ _ _ h=>h) (Or.inr ⟨by rfl,rfl⟩) hS ?_
     try simp only [Act.put,sB,sC,sD]
     refine wpAnyH_take (i:=13) (oi:=⟨some 32,.load 26 (.tmp 31),26,"simplex.go:120",#[eD 12,eG 2],some (2,false)⟩) (v:=undef) rfl (by kernel_rfl) (by kernel_rfl) (by kernel_rfl) (fun _ _ _ h=>h) (Or.inr ⟨by rfl,rfl⟩) hS ?_
     try simp only [Act.put,sB,sC,sD]
     refine wpAnyH_take (i:=14) (oi:=⟨some 33,.move (.tmp 7),3,"simplex.go:120",#[eG 2],some (2,false)⟩) (v:=undef) rfl (by kernel_rfl) (by kernel_rfl) (by kernel_rfl) (fun _ _ _ h=>h) (Or.inr ⟨by rfl,rfl⟩) hS ?_
     try simp only [Act.put,sB,sC,sD]
     refine wpAnyH_take (i:=15) (oi:=⟨some 34,.indexAddr 26 (.tmp 32) (.tmp 33),0,"simplex.go:120",#[eD 13,eD 14,eG 2],some (2,false)⟩) (v:=undef) rfl (by kernel_rfl) (by kernel_rfl) (by kernel_rfl) (fun _ _ _ h=>h) (Or.inr ⟨by rfl,rfl⟩) hS ?_
     try simp only [Act.put,sB,sC,sD]
     refine wpAnyH_take (i:=16) (oi:=⟨some 35,.load 3 (.tmp 34),3,"simplex.go:120",#[eD 15,eG 2],some (2,false)⟩) (v:=undef) rfl (by kernel_rfl) (by kernel_rfl) (by kernel_rfl) (fun _ _ _ h=>h) (Or.inr ⟨by rfl,rfl⟩) hS ?_
     try simp only [Act.put,sB,sC,sD]
     refine wpAnyH_take (i:=17) (oi:=⟨some 36,.binOp .lss 3 (.tmp 28) (.tmp 35) 3,4,"simplex.go:120",#[eD 9,eD 16,eG 2],some (2,false)⟩) (v:=undef) rfl (by kernel_rfl) (by kernel_rfl) (by kernel_rfl) (fun _ _ _ h=>h) (Or.inr ⟨by rfl,rfl⟩) hS ?_
     try simp only [Act.put,sB,sC,sD]
     refine tkH 18 ⟨some 37,.pick (.tmp 21) (.const (.bool true)) (.tmp 36),4,"simplex.go:120",#[eD 2,eD 17],none⟩ hS ?_
     try simp only [Act.put,sB,sC,sD]
     refine tkH 19 ⟨some 38,.move (.tmp 37),4,"simplex.go:120",#[eD 18,eC 2],none⟩ hS ?_
     try simp only [Act.put,sB,sC,sD]
     refine tkH 20 ⟨some 39,.move (.tmp 6),122,"simplex.go:120",#[eG 19],some (19,true)⟩ hS ?_
     try simp only [Act.put,sB,sC,sD]
     refine tkH 21 ⟨some 40,.move (.tmp 9),3,"simplex.go:120",#[eG 19],some (19,true)⟩ hS ?_
     try simp only [Act.put,sB,sC,sD]
     refine wpAnyH_ready (rs:=[22]) (by kernel_rfl) (by simp) ?_
     refine AllReadyH.cons (o:=⟨some 41,.call { callee:=.value (.tmp 39),args:=#[.tmp 40],argTypes:=#[3] },4,"simplex.go:120",#[eD 20,eD 21,eC 19,eG 19],some (19,true)⟩) rfl (fun K hK=>?_) AllReadyH.nil
     go_simp
     (with_reducible refine (way1_any hf hi (hT1.below hS.2.2.2.2) hS.1 (cellB b1 hS.2.2.2.2 (Nat.le_refl _)) hl hj HO.out).mono ?_)
     rintro e wn ⟨rfl,hb1⟩
     go_wp2_with fail
     refine hK.out _ _ (keepZ4 hS hb1) (fun hS=>?_)
     clear hK K hb1
     try simp only [Act.put,sB,sC,sD]
     refine tkH 23 ⟨some 42,.pick (.tmp 38) (.tmp 41) (.const (.bool false)),4,"simplex.go:120",#[eD 19,eD 22],none⟩ hS ?_
     try simp only [Act.put,sB,sC,sD]
     refine wpAnyH_done (by kernel_rfl) ?_ _
     go_wp2_with fail
     go_roundg (gk - 1)
     case measure=>omega
     case rel=>exact ⟨j + 1,by omega,by go_num,HN,hS.2.2.2.2⟩
    ·have HN:Hid (FirstSo (j + 1) (S.Free t l) t.col (.int .i64 0) (.bool false)):=hide (.inl ⟨rfl,rfl,fun i hi=>by
      rcases Nat.lt_or_ge i j with h1 | h1
      ·exact hno i h1
      ·obtain rfl:i = j:=by omega
       exact ho⟩)
     have HO:Hid (false = true ↔ S.Free t l j):=hide ⟨fun h=>(by cases h),fun h=>absurd h ho⟩
     clear hno ho
     go_upto_region 6 with (fail)
     refine wp_region_held_drew (S:=fun w'=>w'.cell? ⟨w.heap.size,0,none⟩ = some (.pointer (some ⟨L.p,0,none⟩)) ∧ w'.cell? ⟨L.p,4,none⟩ = some (.slice (some ⟨L.gc,0,none⟩) S.n L.kc) ∧ w'.cell? ⟨L.gc,j,none⟩ = some (.int .i64 (t.col j:Int)) ∧ w'.cell? ⟨L.gc,j,none⟩ = some (.int .i64 (t.col j:Int)) ∧ Below W.heap.size W w') (by kernel_rfl) (hS0) (fun hS=>?_)
     refine tkH 0 ⟨some 19,.move (.tmp 8),4,"simplex.go:120",#[],none⟩ hS ?_
     try simp only [Act.put,sB,sC,sD]
     refine tkH 1 ⟨some 20,.unOp .not 4 (.tmp 19),4,"simplex.go:120",#[eD 0],none⟩ hS ?_
     try simp only [Act.put,sB,sC,sD]
     refine tkH 2 ⟨some 21,.move (.tmp 20),4,"simplex.go:120",#[eD 1],none⟩ hS ?_
     try simp only [Act.put,sB,sC,sD]
     refine wpAnyH_take (i:=3) (oi:=⟨some 22,.load 101 (.tmp 2),101,"simplex.go:120",#[eG 2],some (2,false)⟩) (v:=undef) rfl (by kernel_rfl) (by kernel_rfl) (by kernel_rfl) (fun _ _ _ h=>h) (Or.inr ⟨by rfl,rfl⟩) hS ?_
     try simp only [Act.put,sB,sC,sD]
     refine wpAnyH_take (i:=4) (oi:=⟨some 23,.nilCheck (.tmp 22),0,"simplex.go:120",#[eD 3,eG 2],some (2,false)⟩) (v:=undef) rfl (by kernel_rfl) (by kernel_rfl) (by kernel_rfl) (fun _ _ _ h=>h) (Or.inr ⟨by rfl,rfl⟩) hS ?_
     try simp only [Act.put,sB,sC,sD]
     refine wpAnyH_take (i:=5) (oi:=⟨some 24,.fieldAddr 108 (.tmp 23) 4,0,"simplex.go:120",#[eD 4,eG 2],some (2,false)⟩) (v:=undef) rfl (by kernel_rfl) (by kernel_rfl) (by kernel_rfl) (fun _ _ _ h=>h) (Or.inr ⟨by rfl,rfl⟩) hS ?_
     try simp only [Act.put,sB,sC,sD]
     refine wpAnyH_take (i:=6) (oi:=⟨some 25,.load 26 (.tmp 24),26,"simplex.go:120",#[eD 5,eG 2],some (2,false)⟩) (v:=undef) rfl (by kernel_rfl) (by kernel_rfl) (by kernel_rfl) (fun _ _ _ h=>h) (Or.inr ⟨by rfl,rfl⟩) hS ?_
     try simp only [Act.put,sB,sC,sD]
     refine wpAnyH_take (i:=7) (oi:=⟨some 26,.move (.tmp 9),3,"simplex.go:120",#[eG 2],some (2,false)⟩) (v:=undef) rfl (by kernel_rfl) (by kernel_rfl) (by kernel_rfl) (fun _ _ _ h=>h) (Or.inr ⟨by rfl,rfl⟩) hS ?_
     try simp only [Act.put,sB,sC,sD]
     refine wpAnyH_take (i:=8) (oi:=⟨some 27,.indexAddr 26 (.tmp 25) (.tmp 26),0,"simplex.go:120",#[eD 6,eD 7,eG 2],some (2,false)⟩) (v:=undef) rfl (by kernel_rfl) (by kernel_rfl) (by kernel_rfl) (fun _ _ _ h=>h) (Or.inr ⟨by rfl,rfl⟩) hS ?_
     try simp only [Act.put,sB,sC,sD]
     refine wpAnyH_take (i:=9) (oi:=⟨some 28,.load 3 (.tmp 27),3,"simplex.go:120",#[eD 8,eG 2],some (2,false)⟩) (v:=undef) rfl (by kernel_rfl) (by kernel_rfl) (by kernel_rfl) (fun _ _ _ h=>h) (Or.inr ⟨by rfl,rfl⟩) hS ?_
     try simp only [Act.put,sB,sC,sD]
     refine wpAnyH_take (i:=10) (oi:=⟨some 29,.load 101 (.tmp 2),101,"simplex.go:120",#[eG 2],some (2,false)⟩) (v:=undef) rfl (by kernel_rfl) (by kernel_rfl) (by kernel_rfl) (fun _ _ _ h=>h) (Or.inr ⟨by rfl,rfl⟩) hS ?_
     try simp only [Act.put,sB,sC,sD]
     refine wpAnyH_take (i:=11) (oi:=⟨some 30,.nilCheck (.tmp 29),0,"simplex.go:120",#[eD 10,eG 2],some (2,false)⟩) (v:=undef) rfl (by kernel_rfl) (by kernel_rfl) (by kernel_rfl) (fun _ _ _ h=>h) (Or.inr ⟨by rfl,rfl⟩) hS ?_
     try simp only [Act.put,sB,sC,sD]
     refine wpAnyH_take (i:=12) (oi:=⟨some 31,.fieldAddr 108 (.tmp 30) 4,0,"simplex.go:120",#[eD 11,eG 2],some (2,false)⟩) (v:=undef) rfl (by kernel_rfl) (by kernel_rfl) (by kernel_rfl) (fun _ _ _ h=>h) (Or.inr ⟨by rfl,rfl⟩) hS ?_
     try simp only [Act.put,sB,sC,sD]
     refine wpAnyH_take (i:=13) (oi:=⟨some 32,.load 26 (.tmp 31),26,"simplex.go:120",#[eD 12,eG 2],some (2,false)⟩) (v:=undef) rfl (by kernel_rfl) (by kernel_rfl) (by kernel_rfl) (fun _ _ _ h=>h) (Or.inr ⟨by rfl,rfl⟩) hS ?_
     try simp only [Act.put,sB,sC,sD]
     refine wpAnyH_take (i:=14) (oi:=⟨some 33,.move (.tmp 7),3,"simplex.go:120",#[eG 2],some (2,false)⟩) (v:=undef) rfl (by kernel_rfl) (by kernel_rfl) (by kernel_rfl) (fun _ _ _ h=>h) (Or.inr ⟨by rfl,rfl⟩) hS ?_
     try simp only [Act.put,sB,sC,sD]
     refine wpAnyH_take (i:=15) (oi:=⟨some 34,.indexAddr 26 (.tmp 32) (.tmp 33),0,"simplex.go:120",#[eD 13,eD 14,eG 2],some (2,false)⟩) (v:=undef) rfl (by kernel_rfl) (by kernel_rfl) (by kernel_rfl) (fun _ _ _ h=>h) (Or.inr ⟨by rfl,rfl⟩) hS ?_
     try simp only [Act.put,sB,sC,sD]
     refine wpAnyH_take (i:=16) (oi:=⟨some 35,.load 3 (.tmp 34),3,"simplex.go:120",#[eD 15,eG 2],some (2,false)⟩) (v:=undef) rfl (by kernel_rfl) (by kernel_rfl) (by kernel_rfl) (fun _ _ _ h=>h) (Or.inr ⟨by rfl,rfl⟩) hS ?_
     try simp only [Act.put,sB,sC,sD]
     refine wpAnyH_take (i:=17) (oi:=⟨some 36,.binOp .lss 3 (.tmp 28) (.tmp 35) 3,4,"simplex.go:120",#[eD 9,eD 16,eG 2],some (2,false)⟩) (v:=undef) rfl (by kernel_rfl) (by kernel_rfl) (by kernel_rfl) (fun _ _ _ h=>h) (Or.inr ⟨by rfl,rfl⟩) hS ?_
     try simp only [Act.put,sB,sC,sD]
     refine tkH 18 ⟨some 37,.pick (.tmp 21) (.const (.bool true)) (.tmp 36),4,"simplex.go:120",#[eD 2,eD 17],none⟩ hS ?_
     try simp only [Act.put,sB,sC,sD]
     refine tkH 19 ⟨some 38,.move (.tmp 37),4,"simplex.go:120",#[eD 18,eC 2],none⟩ hS ?_
     try simp only [Act.put,sB,sC,sD]
     refine tkH 20 ⟨some 39,.move (.tmp 6),122,"simplex.go:120",#[eG 19],some (19,true)⟩ hS ?_
     try simp only [Act.put,sB,sC,sD]
     refine tkH 21 ⟨some 40,.move (.tmp 9),3,"simplex.go:120",#[eG 19],some (19,true)⟩ hS ?_
     try simp only [Act.put,sB,sC,sD]
     refine wpAnyH_ready (rs:=[22]) (by kernel_rfl) (by simp) ?_
     refine AllReadyH.cons (o:=⟨some 41,.call { callee:=.value (.tmp 39),args:=#[.tmp 40],argTypes:=#[3] },4,"simplex.go:120",#[eD 20,eD 21,eC 19,eG 19],some (19,true)⟩) rfl (fun K hK=>?_) AllReadyH.nil
     go_simp
     (with_reducible refine (way1_any hf hi (hT1.below hS.2.2.2.2) hS.1 (cellB b1 hS.2.2.2.2 (Nat.le_refl _)) hl hj HO.out).mono ?_)
     rintro e wn ⟨rfl,hb1⟩
     go_wp2_with fail
     refine hK.out _ _ (keepZ4 hS hb1) (fun hS=>?_)
     clear hK K hb1
     try simp only [Act.put,sB,sC,sD]
     refine tkH 23 ⟨some 42,.pick (.tmp 38) (.tmp 41) (.const (.bool false)),4,"simplex.go:120",#[eD 19,eD 22],none⟩ hS ?_
     try simp only [Act.put,sB,sC,sD]
     refine wpAnyH_done (by kernel_rfl) ?_ _
     go_wp2_with fail
     go_roundg (gk - 1)
     case measure=>omega
     case rel=>exact ⟨j + 1,by omega,by go_num,HN,hS.2.2.2.2⟩
   ·have hb':b < S.n:=by have:=hfi.1; omega
    have eb:(b:Int) < (S.n:Int):=by omega
    have kb:=hT2.col b hb'
    have hS0:wr.cell? ⟨w.heap.size,0,none⟩ = some (.pointer (some ⟨L.p,0,none⟩)) ∧ wr.cell? ⟨L.p,4,none⟩ = some (.slice (some ⟨L.gc,0,none⟩) S.n L.kc) ∧ wr.cell? ⟨L.gc,j,none⟩ = some (.int .i64 (t.col j:Int)) ∧ wr.cell? ⟨L.gc,b,none⟩ = some (.int .i64 (t.col b:Int)) ∧ Below W.heap.size W wr.drew:=⟨b0',k3',kj,kb,hB.drew⟩
    rcases Nat.lt_or_ge (t.col j) (t.col b) with hlt | hge
    ·have e1:decide ((t.col j:Int) < (t.col b:Int)) = true:=decide_eq_true (by omega)
     have e2:(t.col j:Int) < (t.col b:Int):=by omega
     by_cases ho:S.Free t l j
     ·have HN:Hid (FirstSo (j + 1) (S.Free t l) t.col (.int .i64 (j:Int)) (.bool true)):=hide (.inr ⟨j,rfl,rfl,First.new ho fun i hi hp=>Nat.le_trans (Nat.le_of_lt hlt) (hfi.2.2 i hi hp)⟩)
      have HO:Hid (true = true ↔ S.Free t l j):=hide ⟨fun _=>ho,fun _=>rfl⟩
      clear hfi ho
      go_upto_region 6 with (fail)
      refine wp_region_held_drew (S:=fun w'=>w'.cell? ⟨w.heap.size,0,none⟩ = some (.pointer (some ⟨L.p,0,none⟩)) ∧ w'.cell? ⟨L.p,4,none⟩ = some (.slice (some ⟨L.gc,0,none⟩) S.n L.kc) ∧ w'.cell? ⟨L.gc,j,none⟩ = some (.int .i64 (t.col j:Int)) ∧ w'.cell? ⟨L.gc,b,none⟩ = some (.int .i64 (t.col b:Int)) ∧ Below W.heap.size W w') (by kernel_rfl) (hS0) (fun hS=>?_)
      refine tkH 0 ⟨some 19,.move (.tmp 8),4,"simplex.go:120",#[],none⟩ hS ?_
      try simp only [Act.put,sB,sC,sD]
      refine tkH 1 ⟨some 20,.unOp .not 4 (.tmp 19),4,"simplex.go:120",#[eD 0],none⟩ hS ?_
      try simp only [Act.put,sB,sC,sD]
      refine tkH 2 ⟨some 21,.move (.tmp 20),4,"simplex.go:120",#[eD 1],none⟩ hS ?_
      try simp only [Act.put,sB,sC,sD]
      refine tkH 3 ⟨some 22,.load 101 (.tmp 2),101,"simplex.go:120",#[eG 2],some (2,false)⟩ hS ?_
      try simp only [Act.put,sB,sC,sD]
      refine tkH 4 ⟨some 23,.nilCheck (.tmp 22),0,"simplex.go:120",#[eD 3,eG 2],some (2,false)⟩ hS ?_
      try simp only [Act.put,sB,sC,sD]
      refine tkH 5 ⟨some 24,.fieldAddr 108 (.tmp 23) 4,0,"simplex.go:120",#[eD 4,eG 2],some (2,false)⟩ hS ?_
      try simp only [Act.put,sB,sC,sD]
      refine tkH 6 ⟨some 25,.load 26 (.tmp 24),26,"simplex.go:120",#[eD 5,eG 2],some (2,false)⟩ hS ?_
      try simp only [Act.put,sB,sC,sD]
      refine tkH 7 ⟨some 26,.move (.tmp 9),3,"simplex.go:120",#[eG 2],some (2,false)⟩ hS ?_
      try simp only [Act.put,sB,sC,sD]
      refine tkH 8 ⟨some 27,.indexAddr 26 (.tmp 25) (.tmp 26),0,"simplex.go:120",#[eD 6,eD 7,eG 2],some (2,false)⟩ hS ?_
      try simp only [Act.put,sB,sC,sD]
      refine tkH 9 ⟨some 28,.load 3 (.tmp 27),3,"simplex.go:120",#[eD 8,eG 2],some (2,false)⟩ hS ?_
      try simp only [Act.put,sB,sC,sD]
      refine tkH 10 ⟨some 29,.load 101 (.tmp 2),101,"simplex.go:120",#[eG 2],some (2,false)⟩ hS ?_
      try simp only [Act.put,sB,sC,sD]
      refine tkH 11 ⟨some 30,.nilCheck (.tmp 29),0,"simplex.go:120",#[eD 10,eG 2],some (2,false)⟩ hS ?_
      try simp only [Act.put,sB,sC,sD]
      refine tkH 12 ⟨some 31,.fieldAddr 108 (.tmp 30) 4,0,"simplex.go:120",#[eD 11,eG 2],some (2,false)⟩ hS ?_
      try simp only [Act.put,sB,sC,sD]
      refine tkH 13 ⟨some 32,.load 26 (.tmp 31),26,"simplex.go:120",#[eD 12,eG 2],some (2,false)⟩ hS ?_
      try simp only [Act.put,sB,sC,sD]
      refine tkH 14 ⟨some 33,.move (.tmp 7),3,"simplex.go:120",#[eG 2],some (2,false)⟩ hS ?_
      try simp only [Act.put,sB,sC,sD]
      refine tkH 15 ⟨some 34,.indexAddr 26 (.tmp 32) (.tmp 33),0,"simplex.go:120",#[eD 13,eD 14,eG 2],some (2,false)⟩ hS ?_
      try simp only [Act.put,sB,sC,sD]
      refine tkH 16 ⟨some 35,.load 3 (.tmp 34),3,"simplex.go:120",#[eD 15,eG 2],some (2,false)⟩ hS ?_
      try simp only [Act.put,sB,sC,sD]
      refine tkH 17 ⟨some 36,.binOp .lss 3 (.tmp 28) (.tmp 35) 3,4,"simplex.go:120",#[eD 9,eD 16,eG 2],some (2,false)⟩ hS ?_
      try simp only [Act.put,sB,sC,sD]
      refine tkH 18 ⟨some 37,.pick (.tmp 21) (.const (.bool true)) (.tmp 36),4,"simplex.go:120",#[eD 2,eD 17],none⟩ hS ?_
      try simp only [Act.put,sB,sC,sD]
      refine tkH 19 ⟨some 38,.move (.tmp 37),4,"simplex.go:120",#[eD 18,eC 2],none⟩ hS ?_
      try simp only [Act.put,sB,sC,sD]
      refine tkH 20 ⟨some 39,.move (.tmp 6),122,"simplex.go:120",#[eG 19],some (19,true)⟩ hS ?_
      try simp only [Act.put,sB,sC,sD]
      refine tkH 21 ⟨some 40,.move (.tmp 9),3,"simplex.go:120",#[eG 19],some (19,true)⟩ hS ?_
      try simp only [Act.put,sB,sC,sD]
      refine wpAnyH_ready (rs:=[22]) (by kernel_rfl) (by simp) ?_
      refine AllReadyH.cons (o:=⟨some 41,.call { callee:=.value (.tmp 39),args:=#[.tmp 40],argTypes:=#[3] },4,"simplex.go:120",#[eD 20,eD 21,eC 19,eG 19],some (19,true)⟩) rfl (fun K hK=>?_) AllReadyH.nil
      go_simp
      (with_reducible refine (way1_any hf hi (hT1.below hS.2.2.2.2) hS.1 (cellB b1 hS.2.2.2.2 (Nat.le_refl _)) hl hj HO.out).mono ?_)
      rintro e wn ⟨rfl,hb1⟩
      go_wp2_with fail
      refine hK.out _ _ (keepZ4 hS hb1) (fun hS=>?_)
      clear hK K hb1
      try simp only [Act.put,sB,sC,sD]
      refine tkH 23 ⟨some 42,.pick (.tmp 38) (.tmp 41) (.const (.bool false)),4,"simplex.go:120",#[eD 19,eD 22],none⟩ hS ?_
      try simp only [Act.put,sB,sC,sD]
      refine wpAnyH_done (by kernel_rfl) ?_ _
      go_wp2_with fail
      go_roundg (gk - 1)
      case measure=>omega
      case rel=>exact ⟨j + 1,by omega,by go_num,HN,hS.2.2.2.2⟩
     ·have HN:Hid (FirstSo (j + 1) (S.Free t l) t.col (.int .i64 (b:Int)) (.bool true)):=hide (.inr ⟨b,rfl,rfl,hfi.step (.inl ho)⟩)
      have HO:Hid (false = true ↔ S.Free t l j):=hide ⟨fun h=>(by cases h),fun h=>absurd h ho⟩
      clear hfi ho
      go_upto_region 6 with (fail)
      refine wp_region_held_drew (S:=fun w'=>w'.cell? ⟨w.heap.size,0,none⟩ = some (.pointer (some ⟨L.p,0,none⟩)) ∧ w'.cell? ⟨L.p,4,none⟩ = some (.slice (some ⟨L.gc,0,none⟩) S.n L.kc) ∧ w'.cell? ⟨L.gc,j,none⟩ = some (.int .i64 (t.col j:Int)) ∧ w'.cell? ⟨L.gc,b,none⟩ = some (.int .i64 (t.col b:Int)) ∧ Below W.heap.size W w') (by kernel_rfl) (hS0) (fun hS=>?_)
      refine tkH 0 ⟨some 19,.move (.tmp 8),4,"simplex.go:120",#[],none⟩ hS ?_
      try simp only [Act.put,sB,sC,sD]
      refine tkH 1 ⟨some 20,.unOp .not 4 (.tmp 19),4,"simplex.go:120",#[eD 0],none⟩ hS ?_
      try simp only [Act.put,sB,sC,sD]
      refine tkH 2 ⟨some 21,.move (.tmp 20),4,"simplex.go:120",#[eD 1],none⟩ hS ?_
      try simp only [Act.put,sB,sC,sD]
      refine tkH 3 ⟨some 22,.load 101 (.tmp 2),101,"simplex.go:120",#[eG 2],some (2,false)⟩ hS ?_
      try simp only [Act.put,sB,sC,sD]
      refine tkH 4 ⟨some 23,.nilCheck (.tmp 22),0,"simplex.go:120",#[eD 3,eG 2],some (2,false)⟩ hS ?_
      try simp only [Act.put,sB,sC,sD]
      refine tkH 5 ⟨some 24,.fieldAddr 108 (.tmp 23) 4,0,"simplex.go:120",#[eD 4,eG 2],some (2,false)⟩ hS ?_
      try simp only [Act.put,sB,sC,sD]
      refine tkH 6 ⟨some 25,.load 26 (.tmp 24),26,"simplex.go:120",#[eD 5,eG 2],some (2,false)⟩ hS ?_
      try simp only [Act.put,sB,sC,sD]
      refine tkH 7 ⟨some 26,.move (.tmp 9),3,"simplex.go:120",#[eG 2],some (2,false)⟩ hS ?_
      try simp only [Act.put,sB,sC,sD]
      refine tkH 8 ⟨some 27,.indexAddr 26 (.tmp 25) (.tmp 26),0,"simplex.go:120",#[eD 6,eD 7,eG 2],some (2,false)⟩ hS ?_
      try simp only [Act.put,sB,sC,sD]
      refine tkH 9 ⟨some 28,.load 3 (.tmp 27),3,"simplex.go:120",#[eD 8,eG 2],some (2,false)⟩ hS ?_
      try simp only [Act.put,sB,sC,sD]
      refine tkH 10 ⟨some 29,.load 101 (.tmp 2),101,"simplex.go:120",#[eG 2],some (2,false)⟩ hS ?_
      try simp only [Act.put,sB,sC,sD]
      refine tkH 11 ⟨some 30,.nilCheck (.tmp 29),0,"simplex.go:120",#[eD 10,eG 2],some (2,false)⟩ hS ?_
      try simp only [Act.put,sB,sC,sD]
      refine tkH 12 ⟨some 31,.fieldAddr 108 (.tmp 30) 4,0,"simplex.go:120",#[eD 11,eG 2],some (2,false)⟩ hS ?_
      try simp only [Act.put,sB,sC,sD]
      refine tkH 13 ⟨some 32,.load 26 (.tmp 31),26,"simplex.go:120",#[eD 12,eG 2],some (2,false)⟩ hS ?_
      try simp only [Act.put,sB,sC,sD]
      refine tkH 14 ⟨some 33,.move (.tmp 7),3,"simplex.go:120",#[eG 2],some (2,false)⟩ hS ?_
      try simp only [Act.put,sB,sC,sD]
      refine tkH 15 ⟨some 34,.indexAddr 26 (.tmp 32) (.tmp 33),0,"simplex.go:120",#[eD 13,eD 14,eG 2],some (2,false)⟩ hS ?_
      try simp only [Act.put,sB,sC,sD]
      refine tkH 16 ⟨some 35,.load 3 (.tmp 34),3,"simplex.go:120",#[eD 15,eG 2],some (2,false)⟩ hS ?_
      try simp only [Act.put,sB,sC,sD]
      refine tkH 17 ⟨some 36,.binOp .lss 3 (.tmp 28) (.tmp 35) 3,4,"simplex.go:120",#[eD 9,eD 16,eG 2],some (2,false)⟩ hS ?_
      try simp only [Act.put,sB,sC,sD]
      refine tkH 18 ⟨some 37,.pick (.tmp 21) (.const (.bool true)) (.tmp 36),4,"simplex.go:120",#[eD 2,eD 17],none⟩ hS ?_
      try simp only [Act.put,sB,sC,sD]
      refine tkH 19 ⟨some 38,.move (.tmp 37),4,"simplex.go:120",#[eD 18,eC 2],none⟩ hS ?_
      try simp only [Act.put,sB,sC,sD]
      refine tkH 20 ⟨some 39,.move (.tmp 6),122,"simplex.go:120",#[eG 19],some (19,true)⟩ hS ?_
      try simp only [Act.put,sB,sC,sD]
      refine tkH 21 ⟨some 40,.move (.tmp 9),3,"simplex.go:120",#[eG 19],some (19,true)⟩ hS ?_
      try simp only [Act.put,sB,sC,sD]
      refine wpAnyH_ready (rs:=[22]) (by kernel_rfl) (by simp) ?_
      refine AllReadyH.cons (o:=⟨some 41,.call { callee:=.value (.tmp 39),args:=#[.tmp 40],argTypes:=#[3] },4,"simplex.go:120",#[eD 20,eD 21,eC 19,eG 19],some (19,true)⟩) rfl (fun K hK=>?_) AllReadyH.nil
      go_simp
      (with_reducible refine (way1_any hf hi (hT1.below hS.2.2.2.2) hS.1 (cellB b1 hS.2.2.2.2 (Nat.le_refl _)) hl hj HO.out).mono ?_)
      rintro e wn ⟨rfl,hb1⟩
      go_wp2_with fail
      refine hK.out _ _ (keepZ4 hS hb1) (fun hS=>?_)
      clear hK K hb1
      try simp only [Act.put,sB,sC,sD]
      refine tkH 23 ⟨some 42,.pick (.tmp 38) (.tmp 41) (.const (.bool false)),4,"simplex.go:120",#[eD 19,eD 22],none⟩ hS ?_
      try simp only [Act.put,sB,sC,sD]
      refine wpAnyH_done (by kernel_rfl) ?_ _
      go_wp2_with fail
      go_roundg (gk - 1)
      case measure=>omega
      case rel=>exact ⟨j + 1,by omega,by go_num,HN,hS.2.2.2.2⟩
    ·have e1:decide ((t.col j:Int) < (t.col b:Int)) = false:=decide_eq_false (by omega)
     have e2:¬((t.col j:Int) < (t.col b:Int)):=by omega
     have HN:Hid (FirstSo (j + 1) (S.Free t l) t.col (.int .i64 (b:Int)) (.bool true)):=hide (.inr ⟨b,rfl,rfl,hfi.step (.inr hge)⟩)
     clear hfi
     go_upto_region 6 with (fail)
     refine wp_region_held_drew (S:=fun w'=>w'.cell? ⟨w.heap.size,0,none⟩ = some (.pointer (some ⟨L.p,0,none⟩)) ∧ w'.cell? ⟨L.p,4,none⟩ = some (.slice (some ⟨L.gc,0,none⟩) S.n L.kc) ∧ w'.cell? ⟨L.gc,j,none⟩ = some (.int .i64 (t.col j:Int)) ∧ w'.cell? ⟨L.gc,b,none⟩ = some (.int .i64 (t.col b:Int)) ∧ Below W.heap.size W w') (by kernel_rfl) (hS0) (fun hS=>?_)
     refine tkH 0 ⟨some 19,.move (.tmp 8),4,"simplex.go:120",#[],none⟩ hS ?_
     try simp only [Act.put,sB,sC,sD]
     refine tkH 1 ⟨some 20,.unOp .not 4 (.tmp 19),4,"simplex.go:120",#[eD 0],none⟩ hS ?_
     try simp only [Act.put,sB,sC,sD]
     refine tkH 2 ⟨some 21,.move (.tmp 20),4,"simplex.go:120",#[eD 1],none⟩ hS ?_
     try simp only [Act.put,sB,sC,sD]
     refine tkH 3 ⟨some 22,.load 101 (.tmp 2),101,"simplex.go:120",#[eG 2],some (2,false)⟩ hS ?_
     try simp only [Act.put,sB,sC,sD]
     refine tkH 4 ⟨some 23,.nilCheck (.tmp 22),0,"simplex.go:120",#[eD 3,eG 2],some (2,false)⟩ hS ?_
     try simp only [Act.put,sB,sC,sD]
     refine tkH 5 ⟨some 24,.fieldAddr 108 (.tmp 23) 4,0,"simplex.go:120",#[eD 4,eG 2],some (2,false)⟩ hS ?_
     try simp only [Act.put,sB,sC,sD]
     refine tkH 6 ⟨some 25,.load 26 (.tmp 24),26,"simplex.go:120",#[eD 5,eG 2],some (2,false)⟩ hS ?_
     try simp only [Act.put,sB,sC,sD]
     refine tkH 7 ⟨some 26,.move (.tmp 9),3,"simplex.go:120",#[eG 2],some (2,false)⟩ hS ?_
     try simp only [Act.put,sB,sC,sD]
     refine tkH 8 ⟨some 27,.indexAddr 26 (.tmp 25) (.tmp 26),0,"simplex.go:120",#[eD 6,eD 7,eG 2],some (2,false)⟩ hS ?_
     try simp only [Act.put,sB,sC,sD]
     refine tkH 9 ⟨some 28,.load 3 (.tmp 27),3,"simplex.go:120",#[eD 8,eG 2],some (2,false)⟩ hS ?_
     try simp only [Act.put,sB,sC,sD]
     refine tkH 10 ⟨some 29,.load 101 (.tmp 2),101,"simplex.go:120",#[eG 2],some (2,false)⟩ hS ?_
     try simp only [Act.put,sB,sC,sD]
     refine tkH 11 ⟨some 30,.nilCheck (.tmp 29),0,"simplex.go:120",#[eD 10,eG 2],some (2,false)⟩ hS ?_
     try simp only [Act.put,sB,sC,sD]
     refine tkH 12 ⟨some 31,.fieldAddr 108 (.tmp 30) 4,0,"simplex.go:120",#[eD 11,eG 2],some (2,false)⟩ hS ?_
     try simp only [Act.put,sB,sC,sD]
     refine tkH 13 ⟨some 32,.load 26 (.tmp 31),26,"simplex.go:120",#[eD 12,eG 2],some (2,false)⟩ hS ?_
     try simp only [Act.put,sB,sC,sD]
     refine tkH 14 ⟨some 33,.move (.tmp 7),3,"simplex.go:120",#[eG 2],some (2,false)⟩ hS ?_
     try simp only [Act.put,sB,sC,sD]
     refine tkH 15 ⟨some 34,.indexAddr 26 (.tmp 32) (.tmp 33),0,"simplex.go:120",#[eD 13,eD 14,eG 2],some (2,false)⟩ hS ?_
     try simp only [Act.put,sB,sC,sD]
     refine tkH 16 ⟨some 35,.load 3 (.tmp 34),3,"simplex.go:120",#[eD 15,eG 2],some (2,false)⟩ hS ?_
     try simp only [Act.put,sB,sC,sD]
     refine tkH 17 ⟨some 36,.binOp .lss 3 (.tmp 28) (.tmp 35) 3,4,"simplex.go:120",#[eD 9,eD 16,eG 2],some (2,false)⟩ hS ?_
     try simp only [Act.put,sB,sC,sD]
     refine tkH 18 ⟨some 37,.pick (.tmp 21) (.const (.bool true)) (.tmp 36),4,"simplex.go:120",#[eD 2,eD 17],none⟩ hS ?_
     try simp only [Act.put,sB,sC,sD]
     refine tkH 19 ⟨some 38,.move (.tmp 37),4,"simplex.go:120",#[eD 18,eC 2],none⟩ hS ?_
     try simp only [Act.put,sB,sC,sD]
     refine wpAnyH_take (i:=20) (oi:=⟨some 39,.move (.tmp 6),122,"simplex.go:120",#[eG 19],some (19,true)⟩) (v:=undef) rfl (by kernel_rfl) (by kernel_rfl) (by kernel_rfl) (fun _ _ _ h=>h) (Or.inr ⟨by rfl,rfl⟩) hS ?_
     try simp only [Act.put,sB,sC,sD]
     refine wpAnyH_take (i:=21) (oi:=⟨some 40,.move (.tmp 9),3,"simplex.go:120",#[eG 19],some (19,true)⟩) (v:=undef) rfl (by kernel_rfl) (by kernel_rfl) (by kernel_rfl) (fun _ _ _ h=>h) (Or.inr ⟨by rfl,rfl⟩) hS ?_
     try simp only [Act.put,sB,sC,sD]
     refine wpAnyH_take (i:=22) (oi:=⟨some 41,.call { callee:=.value (.tmp 39),args:=#[.tmp 40],argTypes:=#[3] },4,"simplex.go:120",#[eD 20,eD 21,eC 19,eG 19],some (19,true)⟩) (v:=undef) rfl (by kernel_rfl) (by kernel_rfl) (by kernel_rfl) (fun _ _ _ h=>h) (Or.inr ⟨by rfl,rfl⟩) hS ?_
     try simp only [Act.put,sB,sC,sD]
     refine tkH 23 ⟨some 42,.pick (.tmp 38) (.tmp 41) (.const (.bool false)),4,"simplex.go:120",#[eD 19,eD 22],none⟩ hS ?_
     try simp only [Act.put,sB,sC,sD]
     refine wpAnyH_done (by kernel_rfl) ?_ _
     go_wp2_with fail
     go_roundg (gk - 1)
     case measure=>omega
     case rel=>exact ⟨j + 1,by omega,by go_num,HN,hS.2.2.2.2⟩

structure TabM (B:Nat) (w:World) (S:Sys) (L:Spots):Prop where
 fv:∀ i,w.frozen? ⟨L.gv,i,none⟩ = false
 ft:∀ i,w.frozen? ⟨L.gt,i,none⟩ = false
 fc:∀ i,w.frozen? ⟨L.gc,i,none⟩ = false
 fr:∀ l,l < S.m → ∀ i,w.frozen? ⟨L.row l,i,none⟩ = false
 bv:B ≤ L.gv
 bt:B ≤ L.gt
 bc:B ≤ L.gc
 br:∀ l,l < S.m → B ≤ L.row l
 pv:L.p ≠ L.gv
 pt:L.p ≠ L.gt
 pc:L.p ≠ L.gc
 pr:∀ l,l < S.m → L.p ≠ L.row l
 mv:L.gm ≠ L.gv
 mt:L.gm ≠ L.gt
 mc:L.gm ≠ L.gc
 mr:∀ l,l < S.m → L.gm ≠ L.row l
 vt:L.gv ≠ L.gt
 vc:L.gv ≠ L.gc
 vx:L.gv ≠ L.gx
 vr:∀ l,l < S.m → L.gv ≠ L.row l
 tc:L.gt ≠ L.gc
 tx:L.gt ≠ L.gx
 tr:∀ l,l < S.m → L.gt ≠ L.row l
 cx:L.gc ≠ L.gx
 cr:∀ l,l < S.m → L.gc ≠ L.row l
 xr:∀ l,l < S.m → L.gx ≠ L.row l
 rr:∀ l l',l < S.m → l' < S.m → L.row l = L.row l' → l = l'

section
variable {w:World} {S:Sys} {t:Sim} {L:Spots} {n m:Bool} {a b:Option Addr} {l0 k0 i0 j0:Nat} {q:Rat}
theorem TabV.setVal {B:Nat} (h:TabV w S t L) (hm:TabM B w S L) {v:Nat} (hv:v < S.n + S.m) (hq:FracV w (.agg #[.bool n,.slice a l0 k0,.bool m,.slice b i0 j0]) q) :
  TabV (put4 w L.gv (v * 4) (.bool n) (.slice a l0 k0) (.bool m) (.slice b i0 j0)) S { t with val:=put t.val v q } L where
 c0:=by rw [cell_put4 _ _ _ _ _ _ _ _ (.inl hm.pv)]; exact h.c0
 c1:=by rw [cell_put4 _ _ _ _ _ _ _ _ (.inl hm.pv)]; exact h.c1
 c2:=by rw [cell_put4 _ _ _ _ _ _ _ _ (.inl hm.pv)]; exact h.c2
 c3:=by rw [cell_put4 _ _ _ _ _ _ _ _ (.inl hm.pv)]; exact h.c3
 c4:=by rw [cell_put4 _ _ _ _ _ _ _ _ (.inl hm.pv)]; exact h.c4
 c5:=by rw [cell_put4 _ _ _ _ _ _ _ _ (.inl hm.pv)]; exact h.c5
 am:=h.am
 av:=h.av
 at_:=h.at_
 ac:=h.ac
 ax:=h.ax
 ra:=h.ra
 most:=fun i hi=>(h.most i hi).put4 (h.val v hv) (.inl hm.mv)
 val:=fun u hu=>by
  show FAt _ _ _ (put t.val v q u)
  by_cases he:u = v
  ·rw [he,put_at]
   exact FAt.put4_at hq (h.val v hv)
  ·rw [put_else _ _ he]
   exact (h.val u hu).put4 (h.val v hv) (.inr (by omega))
 told:=fun l hl=>by rw [cell_put4 _ _ _ _ _ _ _ _ (.inl hm.vt.symm)]; exact h.told l hl
 col:=fun c hc=>by rw [cell_put4 _ _ _ _ _ _ _ _ (.inl hm.vc.symm)]; exact h.col c hc
 rows:=fun l hl=>by rw [cell_put4 _ _ _ _ _ _ _ _ (.inl hm.vx.symm)]; exact h.rows l hl
 T:=fun l c hl hc=>(h.T l c hl hc).put4 (h.val v hv) (.inl (hm.vr l hl).symm)
theorem TabV.setT {B:Nat} (h:TabV w S t L) (hm:TabM B w S L) {l c:Nat} (hl:l < S.m) (hc:c < S.n) (hq:FracV w (.agg #[.bool n,.slice a l0 k0,.bool m,.slice b i0 j0]) q) :
  TabV (put4 w (L.row l) (c * 4) (.bool n) (.slice a l0 k0) (.bool m) (.slice b i0 j0)) S { t with T:=put t.T l (put (t.T l) c q) } L where
 c0:=by rw [cell_put4 _ _ _ _ _ _ _ _ (.inl (hm.pr l hl))]; exact h.c0
 c1:=by rw [cell_put4 _ _ _ _ _ _ _ _ (.inl (hm.pr l hl))]; exact h.c1
 c2:=by rw [cell_put4 _ _ _ _ _ _ _ _ (.inl (hm.pr l hl))]; exact h.c2
 c3:=by rw [cell_put4 _ _ _ _ _ _ _ _ (.inl (hm.pr l hl))]; exact h.c3
 c4:=by rw [cell_put4 _ _ _ _ _ _ _ _ (.inl (hm.pr l hl))]; exact h.c4
 c5:=by rw [cell_put4 _ _ _ _ _ _ _ _ (.inl (hm.pr l hl))]; exact h.c5
 am:=h.am
 av:=h.av
 at_:=h.at_
 ac:=h.ac
 ax:=h.ax
 ra:=h.ra
 most:=fun i hi=>(h.most i hi).put4 (h.T l c hl hc) (.inl (hm.mr l hl))
 val:=fun u hu=>(h.val u hu).put4 (h.T l c hl hc) (.inl (hm.vr l hl))
 told:=fun i hi=>by rw [cell_put4 _ _ _ _ _ _ _ _ (.inl (hm.tr l hl))]; exact h.told i hi
 col:=fun i hi=>by rw [cell_put4 _ _ _ _ _ _ _ _ (.inl (hm.cr l hl))]; exact h.col i hi
 rows:=fun i hi=>by rw [cell_put4 _ _ _ _ _ _ _ _ (.inl (hm.xr l hl))]; exact h.rows i hi
 T:=fun l' c' hl' hc'=>by
  show FAt _ _ _ (put t.T l (put (t.T l) c q) l' c')
  by_cases he:l' = l
  ·subst he
   rw [put_at]
   by_cases hc2:c' = c
   ·subst hc2
    rw [put_at]
    exact FAt.put4_at hq (h.T l' c' hl hc)
   ·rw [put_else _ _ hc2]
    exact (h.T l' c' hl hc').put4 (h.T l' c hl hc) (.inr (by omega))
  ·rw [put_else _ _ he]
   exact (h.T l' c' hl' hc').put4 (h.T l c hl hc) (.inl fun e=>he (hm.rr _ _ hl' hl e))
theorem TabM.put4 {B g o:Nat} (h:TabM B w S L) (p q r s:Value):TabM B (put4 w g o p q r s) S L:=
 { h with
  fv:=fun i=>(frozen_put4 _ _ _ _ _ _ _ _).trans (h.fv i)
  ft:=fun i=>(frozen_put4 _ _ _ _ _ _ _ _).trans (h.ft i)
  fc:=fun i=>(frozen_put4 _ _ _ _ _ _ _ _).trans (h.fc i)
  fr:=fun l hl i=>(frozen_put4 _ _ _ _ _ _ _ _).trans (h.fr l hl i) }
theorem TabM.set1 {B:Nat} (h:TabM B w S L) (x:Addr) (u:Value):TabM B (w.setCell x u) S L:=
 { h with
  fv:=fun i=>(World.frozen?_setCell _ _ _ _).trans (h.fv i)
  ft:=fun i=>(World.frozen?_setCell _ _ _ _).trans (h.ft i)
  fc:=fun i=>(World.frozen?_setCell _ _ _ _).trans (h.fc i)
  fr:=fun l hl i=>(World.frozen?_setCell _ _ _ _).trans (h.fr l hl i) }
theorem frozen_below {w w':World} {x:Addr} (hb:Below w.heap.size w w') (hx:x.block < w.heap.size) (h:w.frozen? x = false):w'.frozen? x = false:=by
 have h1:=hb.block x.block hx
 unfold World.frozen? at h ⊢
 rw [h1]
 exact h
theorem TabM.below {B:Nat} {w':World} (h:TabM B w S L) (hT:TabV w S t L) (hn:0 < S.n) (hm:0 < S.m) (hb:Below w.heap.size w w'):TabM B w' S L:=
 { h with
  fv:=fun i=>frozen_below hb (hT.val 0 (by omega)).lt (h.fv i)
  ft:=fun i=>frozen_below hb (show L.gt < w.heap.size from World.block_lt_of_cell? w _ (hT.told 0 hm)) (h.ft i)
  fc:=fun i=>frozen_below hb (show L.gc < w.heap.size from World.block_lt_of_cell? w _ (hT.col 0 hn)) (h.fc i)
  fr:=fun l hl i=>frozen_below hb (hT.T l 0 hl hn).lt (h.fr l hl i) }
theorem TabV.setTold {B:Nat} (h:TabV w S t L) (hm:TabM B w S L) {l v:Nat} (hl:l < S.m) :
  TabV (w.setCell ⟨L.gt,l,none⟩ (.int .i64 (v:Int))) S { t with told:=put t.told l v } L:=by
 have hnd:NoDig w ⟨L.gt,l,none⟩:=NoDig.of (h.told l hl) (by intro z e; cases e)
 have far:∀ {g o:Nat} {x:Value},L.gt ≠ g → w.cell? ⟨g,o,none⟩ = some x → (w.setCell ⟨L.gt,l,none⟩ (.int .i64 (v:Int))).cell? ⟨g,o,none⟩ = some x:=fun {g o x} hne hc=>by
  rw [World.cell?_setCell_other _ _ _ _ (show (⟨L.gt,l,none⟩:Addr) ≠ ⟨g,o,none⟩ from fun e=>hne (by injection e))]; exact hc
 exact {
  c0:=far hm.pt.symm h.c0
  c1:=far hm.pt.symm h.c1
  c2:=far hm.pt.symm h.c2
  c3:=far hm.pt.symm h.c3
  c4:=far hm.pt.symm h.c4
  c5:=far hm.pt.symm h.c5
  am:=h.am
  av:=h.av
  at_:=h.at_
  ac:=h.ac
  ax:=h.ax
  ra:=h.ra
  most:=fun i hi=>(h.most i hi).setX hnd (.inl hm.mt.symm) _
  val:=fun i hi=>(h.val i hi).setX hnd (.inl hm.vt.symm) _
  told:=fun i hi=>by
   show _ = some (Value.int .i64 ((put t.told l v i:Nat):Int))
   by_cases he:i = l
   ·subst he
    rw [put_at,World.cell?_setCell_same' _ _ _ (by rw [h.told i hi]; rfl)]
   ·rw [put_else _ _ he,World.cell?_setCell_other _ _ _ _ (show (⟨L.gt,l,none⟩:Addr) ≠ ⟨L.gt,i,none⟩ from fun e=>he (by injection e with _ e2; exact e2.symm))]
    exact h.told i hi
  col:=fun i hi=>far hm.tc (h.col i hi)
  rows:=fun i hi=>far hm.tx (h.rows i hi)
  T:=fun i c hi hc=>(h.T i c hi hc).setX hnd (.inl (hm.tr i hi)) _ }
theorem TabV.setCol {B:Nat} (h:TabV w S t L) (hm:TabM B w S L) {c v:Nat} (hc:c < S.n) :
  TabV (w.setCell ⟨L.gc,c,none⟩ (.int .i64 (v:Int))) S { t with col:=put t.col c v } L:=by
 have hnd:NoDig w ⟨L.gc,c,none⟩:=NoDig.of (h.col c hc) (by intro z e; cases e)
 have far:∀ {g o:Nat} {x:Value},L.gc ≠ g → w.cell? ⟨g,o,none⟩ = some x → (w.setCell ⟨L.gc,c,none⟩ (.int .i64 (v:Int))).cell? ⟨g,o,none⟩ = some x:=fun {g o x} hne hx=>by
  rw [World.cell?_setCell_other _ _ _ _ (show (⟨L.gc,c,none⟩:Addr) ≠ ⟨g,o,none⟩ from fun e=>hne (by injection e))]; exact hx
 exact {
  c0:=far hm.pc.symm h.c0
  c1:=far hm.pc.symm h.c1
  c2:=far hm.pc.symm h.c2
  c3:=far hm.pc.symm h.c3
  c4:=far hm.pc.symm h.c4
  c5:=far hm.pc.symm h.c5
  am:=h.am
  av:=h.av
  at_:=h.at_
  ac:=h.ac
  ax:=h.ax
  ra:=h.ra
  most:=fun i hi=>(h.most i hi).setX hnd (.inl hm.mc.symm) _
  val:=fun i hi=>(h.val i hi).setX hnd (.inl hm.vc.symm) _
  told:=fun i hi=>far hm.tc.symm (h.told i hi)
  col:=fun i hi=>by
   show _ = some (Value.int .i64 ((put t.col c v i:Nat):Int))
   by_cases he:i = c
   ·subst he
    rw [put_at,World.cell?_setCell_same' _ _ _ (by rw [h.col i hi]; rfl)]
   ·rw [put_else _ _ he,World.cell?_setCell_other _ _ _ _ (show (⟨L.gc,c,none⟩:Addr) ≠ ⟨L.gc,i,none⟩ from fun e=>he (by injection e with _ e2; exact e2.symm))]
    exact h.col i hi
  rows:=fun i hi=>far hm.cx (h.rows i hi)
  T:=fun i d hi hd=>(h.T i d hi hd).setX hnd (.inl (hm.cr i hi)) _ }
end

theorem wp_append_at {P:Program} {w:World} {o:Oper} {a:Act} {K:Act → World → Prop} {Q:Exit → Act → World → Prop} (s x:Operand) (t:TypeId)
  (ho:o.op = .call { callee:=.builtin .append,args:=#[s,x],argTypes:=#[t,t] })
  (base:Nat) (e:TypeId) (i:TypeInfo) (z:Value) (size bytes:Nat) (ht:P.underlying t = some (.slice e)) (hi:P.info? e = some i) (hz:i.zero = some z)
  (hsize:i.size = size) (hby:i.bytes = bytes) (hzs:z.cells.size = size) (hsz:0 < size)
  (v:Value) (n:Nat) (xs:List Value) (hs:a.eval s = v) (hown:w.ownsRow base e size v n xs)
  (ad:Addr) (m c:Nat) (news:List Value) (hx:a.eval x = .slice (some ad) m c) (hl:news.length = m * size) (hnews:∀ j u,news[j]? = some u → w.cell? (ad.add j) = some u) (h1:∀ u ∈ news,u.oneCell' = true)
  (h63:n + m ≤ maxLen) (hbytes:(n + m) * bytes ≤ 140737488355328) (hbase:base ≤ w.heap.size)
  (h:∀ v' w',w'.ownsRow base e size v' (n + m) (xs ++ news) → w.grownBy w' v.ownBlock → (v'.ownBlock = v.ownBlock ∨ v'.ownBlock = some w.heap.size) → K (a.put o.dst v') w'):o.wp P a w K Q:=by
 obtain ⟨v',w',hr,h2,h3,_,h5⟩:=run_append_own_at (P:=P) w base t o.type e i z size bytes ht hi hz hsize hby hzs hsz v n xs hown ad m c news hl hnews h1 h63 hbytes hbase
 unfold Oper.wp execOp
 simp only [ho,resolve,invoke,builtin,Sem.run_bind,Sem.run_pure,Result.andThen_ok,List.map_toArray,List.map_cons,List.map_nil,hs,hx,hr]
 exact h v' w' h2 h3 h5

theorem wp_append_src {w:World} {o:Oper} {a:Act} {K:Act → World → Prop} {Q:Exit → Act → World → Prop} (s x:Operand)
  (ho:o.op = .call { callee:=.builtin .append,args:=#[s,x],argTypes:=#[36,36] })
  (base:Nat) (v:Value) (ds:List Nat) (hs:a.eval s = v) (hown:OwnD w base v ds) (A:Option Addr) (c:Nat) (es:List Nat) (hx:a.eval x = .slice A es.length c) (hfit:Fit A es.length c) (hd:Dg .u32 w A es)
  (hlen:ds.length + es.length ≤ 2199023255552) (hbase:base ≤ w.heap.size)
  (h:∀ v' w',OwnD w' base v' (ds ++ es) → Below base w w' → K (a.put o.dst v') w'):o.wp Try.prog a w K Q:=by
 obtain ⟨i0,hi0,hz0,hz1,hz2⟩:=info_parts info32
 cases A with
 | none=>
  obtain ⟨h1,h2⟩:=hfit
  have hc:=h2 rfl
  subst hc
  obtain rfl:es = []:=List.eq_nil_of_length_eq_zero (by omega)
  have hrun:=run_append_owned_none (P:=Try.prog) (w:=w) base 36 o.type 85 i0 1 Try.underlying36 hi0 v ds.length (dcells .u32 ds) hown
  have hx':a.eval x = .slice none 0 0:=hx
  unfold Oper.wp
  simp [execOp,ho,resolve,invoke,builtin,hs,hx',hrun,Result.andThen]
  exact h v w (by simpa using hown) (Below.refl _ _)
 | some ad=>
  have hnews:∀ j u,(dcells .u32 es)[j]? = some u → w.cell? (ad.add j) = some u:=by
   intro j u hj
   have hjl:j < es.length:=by
    have:=(List.getElem?_eq_some_iff.1 hj).1
    rwa [dcells_len] at this
   obtain ⟨b,off,e,hc⟩:=hd (by omega)
   obtain rfl:ad = ⟨b,off,none⟩:=Option.some.inj e
   rw [add_plain,hc j hjl]
   unfold dcells at hj
   rw [List.getElem?_map,List.getElem?_eq_getElem hjl] at hj
   exact hj
  refine wp_append_at s x 36 ho base 85 i0 (.int .u32 0) 1 4 Try.underlying36 hi0 hz0 hz1 hz2 rfl (by decide) v ds.length (dcells .u32 ds) hs hown ad es.length c (dcells .u32 es) hx (by rw [dcells_len]; omega) hnews (dcells_one _ _) (by unfold maxLen; omega) (by omega) hbase (fun v' w' h2 h3 h4=>?_)
  refine h v' w' ?_ (below_of_grown h3 (fun g hg=>(World.ownsRow.lt hown g hg).1) hbase)
  unfold OwnD
  rw [dcells_app,List.length_append]
  exact h2

set_option maxRecDepth 100000 in
set_option maxHeartbeats 1600000 in
theorem own1_any {x:Int} {u:Value} (w:World) (hx:IntV w u x) (hn:Sm x):Calls Try.prog 73 #[u] w (IntPost w x):=by
 generalize hP:IntPost w x = Post
 have HP:=hide hP
 clear hP
 obtain ⟨xa,xk,rfl,hf,hd⟩:=hx
 have hn2:(dg BB x.natAbs).length ≤ 1099511627776:=hn
 obtain ⟨ds,hds⟩:∃ ds,dg BB x.natAbs = ds:=⟨_,rfl⟩
 obtain ⟨xn,hxn⟩:∃ xn,decide (x < 0) = xn:=⟨_,rfl⟩
 rw [hds] at hf hd hn2 ⊢
 rw [hxn]
 replace hds:=hide hds
 replace hxn:=hide hxn
 clear hn
 obtain ⟨W,hW⟩:∃ W,((w.alloc (.cells #[.bool xn,.slice xa ds.length xk] 38)).alloc (.cells #[.bool false,.slice none 0 0] 38)) = W:=⟨_,rfl⟩
 have bx:Blk W w.heap.size 38 #[.bool xn,.slice xa ds.length xk]:=by rw [← hW]; exact (Blk.new w _ _).alloc _
 have bR:Blk W (w.heap.size + 1) 38 #[.bool false,.slice none 0 0]:=by rw [← hW]; exact Blk.new_at _ _ _ (by simp)
 have sb:Below w.heap.size w W:=by rw [← hW]; exact ((Below.refl w.heap.size w).alloc (Nat.le_refl _) _).alloc (by simp) _
 obtain ⟨cx0,cx1,-⟩:=bx.c2
 have hK:Kp w 38 (w.heap.size + 1) W:=⟨sb,by omega,_,_,_,_,bR⟩
 have HW:=hide hW
 clear hW bx bR
 go_enter Try.func73,Try.ntmps73
 go_upto_region 1 with (fail)
 rw [HW.out]
 clear HW
 have dx:w.heap.size ≠ w.heap.size + 1:=by omega
 refine wp_region_held_drew (S:=fun w'=>w'.cell? ⟨w.heap.size,0,none⟩ = some (.bool xn) ∧ w'.cell? ⟨w.heap.size,1,none⟩ = some (.slice xa ds.length xk) ∧ Kp w 38 (w.heap.size + 1) w') (by kernel_rfl) (⟨cx0,cx1,hK.drew⟩) (fun hS=>?_)
 refine tkH 0 ⟨some 3,.fieldAddr 38 (.tmp 1) 0,0,"simplex.go:65",#[],none⟩ hS ?_
 try simp only [Act.put,sB,sC,sD]
 refine tkH 1 ⟨some 4,.load 4 (.tmp 3),4,"simplex.go:65",#[eD 0],none⟩ hS ?_
 try simp only [Act.put,sB,sC,sD]
 refine tkH 2 ⟨some 5,.fieldAddr 38 (.tmp 1) 1,0,"simplex.go:65",#[],none⟩ hS ?_
 try simp only [Act.put,sB,sC,sD]
 refine tkH 3 ⟨some 6,.load 36 (.tmp 5),36,"simplex.go:65",#[eD 2],none⟩ hS ?_
 try simp only [Act.put,sB,sC,sD]
 refine wpAnyH_ready (rs:=[4]) (by kernel_rfl) (by simp) ?_
 refine AllReadyH.cons (o:=⟨some 7,.call { callee:=.builtin .append,args:=#[.const (.slice none 0 0),.tmp 6],argTypes:=#[36,36] },36,"simplex.go:65",#[eD 3],none⟩) rfl (fun K hK=>?_) AllReadyH.nil
 rw [if_pos (by rfl)]
 refine wp_append_src (.const (.slice none 0 0)) (.tmp 6) rfl _ (.slice none 0 0) [] (by rfl) (OwnD.nil _ _) xa xk ds (by rfl) hf (hd.below hS.2.2.bel (Nat.le_refl _)) (by simp; omega) (Nat.le_refl _) ?_
 intro v2 w2 ho hb1
 obtain ⟨ra,rc,rfl⟩:=own_slice ho
 obtain ⟨hD2,hc2⟩:=own_dg ho
 refine hK.out _ _ (keepK2 hS hb1) (fun hS=>?_)
 clear hK K hb1
 try simp only [Act.put,sB,sC,sD]
 refine tkH 5 ⟨some 8,.build 38 #[(0,.tmp 4),(1,.tmp 7)],38,"simplex.go:65",#[eD 1,eD 4],none⟩ hS ?_
 try simp only [Act.put,sB,sC,sD]
 refine wpAnyH_ready (rs:=[6]) (by kernel_rfl) (by simp) ?_
 refine AllReadyH.cons (o:=⟨none,.store 38 (.tmp 2) (.tmp 8),0,"simplex.go:65",#[eD 5,eC 4,eP 0,eP 1,eP 2,eP 3,eP 4,eP 5],none⟩) rfl (fun K hK=>?_) AllReadyH.nil
 obtain ⟨_,_,_,_,k0,k1,kf0,kf1,hX4⟩:=Kp.at (t:=38) (g:=w.heap.size + 1) (w:=w) hS.2.2 (Below.refl _ _)
 go_simp
 refine hK.out _ _ (keepP2 dx dx _ _ (isB_of _) (isS_of _ _ _) hS) (fun hS=>?_)
 clear hK K
 try simp only [Act.put,sB,sC,sD]
 refine wpAnyH_done (by kernel_rfl) ?_ _
 have hI0:IntV w2 (.agg #[.bool xn,.slice ra ds.length rc]) x:=⟨ra,rc,by rw [hds.out,hxn.out],by rw [hds.out]; exact hc2,by rw [hds.out]; exact hD2⟩
 have hI:=hI0.st2 hX4 (.bool xn) (.slice ra ds.length rc)
 obtain ⟨e0,e1,-⟩:=(hX4.two (.bool xn) (.slice ra ds.length rc)).c2
 have hB:=hS.2.2.bel
 clear hS
 go_wp2_with fail
 refine bodyPost_ret (v:=Value.agg #[.bool xn,.slice ra ds.length rc]) (by simp [results,Try.results73,go_sem,e0,e1]) rfl ?_
 rw [← HP.out]
 exact ⟨_,rfl,hI,hB⟩

def zeroF:Value:=.agg #[.bool false,.slice none 0 0,.bool false,.slice none 0 0]
theorem infoF:(Try.prog.info? 71).map (fun i=>(i.zero,i.size,i.bytes)) = some (some zeroF,4,64):=by kernel_rfl
theorem own_rowN {w:World} {base:Nat} {e:TypeId} {g n k:Nat} {xs:List Value} (h:w.ownsRow base e k (.slice (some ⟨g,0,none⟩) n n) n xs):Blk w g e xs.toArray:=by
 rcases h.2 with ⟨hv,_⟩ | ⟨g',c,cur,hv,_,hg,hle,_,hsz,htk⟩
 ·cases hv
 ·injection hv with h1 _ h2
  injection h1 with h1
  injection h1 with h1
  subst h1 h2
  unfold Blk
  rw [hg]
  have:cur = xs.toArray:=by
   rw [← htk,List.take_of_length_le (by simp; omega)]
  rw [this]
theorem made_at {n i d:Nat} (hi:i < n) (hd:d < 4):(madeCells zeroF.cells (n * 4))[i * 4 + d]? = zeroF.cells[d]?:=by
 have h1:i * 4 + d < n * 4:=by omega
 have h2:(i * 4 + d) % 4 = d:=by omega
 unfold madeCells
 match d,hd with
 | 0,_=>
  have h3:i * 4 < n * 4:=by omega
  rw [Nat.add_zero,Array.getElem?_map,Array.getElem?_range,if_pos h3]
  simp [zeroF,Value.cells]
 | 1,_=>simp [zeroF,Value.cells,h1,h2]
 | 2,_=>simp [zeroF,Value.cells,h1,h2]
 | 3,_=>simp [zeroF,Value.cells,h1,h2]
theorem FAt.made {w:World} {g n i:Nat} (h:Blk w g 71 (madeCells zeroF.cells (n * 4))) (hi:i < n):FAt w g (i * 4) 0:=
 ⟨false,none,0,0,false,none,0,0,(h.cell _).trans (made_at (d:=0) hi (by decide)),(h.cell _).trans (made_at (d:=1) hi (by decide)),(h.cell _).trans (made_at (d:=2) hi (by decide)),(h.cell _).trans (made_at (d:=3) hi (by decide)),FracV.zero w⟩
theorem wpList_make_frac {w:World} {ops:Array Oper} {rest:List Oper} {o:Oper} {a:Act} {Q:Exit → Act → World → Prop} (hgd:o.guard = none) (l c:Operand) (ho:o.op = Op.makeSlice 61 l c)
  (L C:Int) (n:Nat) (hl:a.eval l = .int .i64 L) (hc:a.eval c = .int .i64 C) (hL:L = (n:Int)) (hC:C = (n:Int)) (hn:n ≤ 1000000)
  (hK:∀ w',(∀ i,i < n → FAt w' w.heap.size (i * 4) 0) → (∀ i,w'.frozen? ⟨w.heap.size,i,none⟩ = false) → Below w.heap.size w w' → wpList Try.prog ops Q rest (a.put o.dst (.slice (some ⟨w.heap.size,0,none⟩) n n)) w'):wpList Try.prog ops Q (o :: rest) a w:=by
 obtain ⟨i0,hi0,hz0,hz1,hz2⟩:=info_parts infoF
 refine wpList_make_full w hgd l c 61 ho w.heap.size 71 i0 zeroF 4 Try.underlying61 hi0 hz0 hz1 .i64 .i64 L C n hl hc hL hC (by rw [hz2]; omega) (by unfold maxLen; omega) (Nat.le_refl _) (fun w' h1 h2=>?_)
 have h3:=own_rowN h1
 rw [Array.toArray_toList] at h3
 exact hK w' (fun i hi=>FAt.made h3 hi) h3.frozen (below_of_grown h2 (fun g h=>by cases h) (Nat.le_refl _))
end Go.Proofs.Ytphjffbldhhdiaa
