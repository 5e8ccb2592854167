/- simplex's over: by its contract. -/
import Derived.Test.YtphjffbldhhdiaaSxMem
namespace Go.Proofs.Ytphjffbldhhdiaa
open Go.RowKit

structure Spots where
 p:Nat
 gm:Nat
 gv:Nat
 gt:Nat
 gc:Nat
 gx:Nat
 am:Option Addr
 av:Option Addr
 at_:Option Addr
 ac:Option Addr
 ax:Option Addr
 km:Nat
 kv:Nat
 kt:Nat
 kc:Nat
 kx:Nat
 row:Nat → Nat
 ra:Nat → Option Addr
 rk:Nat → Nat

structure TabV (w:World) (S:Sys) (t:Sim) (L:Spots):Prop where
 c0:w.cell? ⟨L.p,0,none⟩ = some (.int .i64 (S.n:Int))
 c1:w.cell? ⟨L.p,1,none⟩ = some (.slice L.am S.m L.km)
 c2:w.cell? ⟨L.p,2,none⟩ = some (.slice L.av (S.n + S.m) L.kv)
 c3:w.cell? ⟨L.p,3,none⟩ = some (.slice L.at_ S.m L.kt)
 c4:w.cell? ⟨L.p,4,none⟩ = some (.slice L.ac S.n L.kc)
 c5:w.cell? ⟨L.p,5,none⟩ = some (.slice L.ax S.m L.kx)
 am:0 < S.m → L.am = some ⟨L.gm,0,none⟩
 av:0 < S.n + S.m → L.av = some ⟨L.gv,0,none⟩
 at_:0 < S.m → L.at_ = some ⟨L.gt,0,none⟩
 ac:0 < S.n → L.ac = some ⟨L.gc,0,none⟩
 ax:0 < S.m → L.ax = some ⟨L.gx,0,none⟩
 ra:∀ l,l < S.m → 0 < S.n → L.ra l = some ⟨L.row l,0,none⟩
 most:∀ i,i < S.m → FAt w L.gm (i * 4) (S.most i)
 val:∀ v,v < S.n + S.m → FAt w L.gv (v * 4) (t.val v)
 told:∀ l,l < S.m → w.cell? ⟨L.gt,l,none⟩ = some (.int .i64 (t.told l:Int))
 col:∀ c,c < S.n → w.cell? ⟨L.gc,c,none⟩ = some (.int .i64 (t.col c:Int))
 rows:∀ l,l < S.m → w.cell? ⟨L.gx,l,none⟩ = some (.slice (L.ra l) S.n (L.rk l))
 T:∀ l c,l < S.m → c < S.n → FAt w (L.row l) (c * 4) (t.T l c)

theorem cellB {w w':World} {x:Addr} {v:Value} {B:Nat} (h:w.cell? x = some v) (hb:Below B w w') (hB:w.heap.size ≤ B):w'.cell? x = some v:=
 (hb.cell (Nat.lt_of_lt_of_le (World.block_lt_of_cell? w _ h) hB)).trans h
theorem TabV.below {w w':World} {S:Sys} {t:Sim} {L:Spots} (h:TabV w S t L) (hb:Below w.heap.size w w'):TabV w' S t L where
 c0:=cellB h.c0 hb (Nat.le_refl _)
 c1:=cellB h.c1 hb (Nat.le_refl _)
 c2:=cellB h.c2 hb (Nat.le_refl _)
 c3:=cellB h.c3 hb (Nat.le_refl _)
 c4:=cellB h.c4 hb (Nat.le_refl _)
 c5:=cellB h.c5 hb (Nat.le_refl _)
 am:=h.am
 av:=h.av
 at_:=h.at_
 ac:=h.ac
 ax:=h.ax
 ra:=h.ra
 most:=fun i hi=>(h.most i hi).below hb (Nat.le_refl _)
 val:=fun i hi=>(h.val i hi).below hb (Nat.le_refl _)
 told:=fun i hi=>cellB (h.told i hi) hb (Nat.le_refl _)
 col:=fun i hi=>cellB (h.col i hi) hb (Nat.le_refl _)
 rows:=fun i hi=>cellB (h.rows i hi) hb (Nat.le_refl _)
 T:=fun i c hi hc=>(h.T i c hi hc).below hb (Nat.le_refl _)

structure Fair (S:Sys) (s M:Nat):Prop where
 n:S.n ≤ 8
 m:S.m ≤ 64
 sLe:s ≤ 100
 MLe:M ≤ 1000000000
 A:∀ i c,i < S.m → c < S.n → Qn s (S.A i c)
 most:∀ i,i < S.m → Qn M (S.most i)
theorem Qn.one:Qn 1 (1:Rat):=⟨by decide,by show len ((1:Nat):Int) ≤ 1; exact dg_len BB2 (by decide)⟩
theorem sizesQ:Sizes Qn:=⟨Qn.zero,Qn.one,Qn.mono,Qn.add,Qn.mul,Qn.div,Qn.neg⟩
theorem szB_le {s:Nat} (hs:s ≤ 100):∀ {n:Nat},n ≤ 8 → szB s n ≤ 10000000:=by
 intro n hn
 refine Nat.le_trans (szB_mono hn) ?_
 simp only [szB]
 omega
theorem Fair.T {S:Sys} {s M:Nat} (hf:Fair S s M) {t:Sim} (h:Inv S t) {l c:Nat} (hl:l < S.m) (hc:c < S.n):Qn 10000000 (t.T l c):=
 Qn.mono (h.size sizesQ hf.A hl hc) (szB_le hf.sLe hf.n)
theorem Fair.val {S:Sys} {s M:Nat} (hf:Fair S s M) {t:Sim} (h:Inv S t) {v:Nat} (hv:v < S.n + S.m):Qn 10000000000 (t.val v):=by
 have h1:=h.valSize sizesQ hf.A (M:=M + 1) (fun i hi=>Qn.mono (hf.most i hi) (by omega)) (by omega) hv
 have h2:=szB_le hf.sLe hf.n
 have h3:=hf.MLe
 refine Qn.mono h1 ?_
 have h4:S.n * (szB s S.n + (M + 1) + 1) ≤ 8 * (szB s S.n + (M + 1) + 1):=Nat.mul_le_mul_right _ hf.n
 omega
theorem Fair.mostZ {S:Sys} {s M:Nat} (hf:Fair S s M) {i:Nat} (hi:i < S.m):Qn 1000000000 (S.most i):=Qn.mono (hf.most i hi) hf.MLe

theorem over_iff {S:Sys} {t:Sim} {l D:Nat} (h:t.told l = S.n + D):S.Over t l ↔ S.most D < t.val (S.n + D):=by
 unfold Sys.Over
 rw [h,show S.n + D - S.n = D from by omega]
 exact ⟨fun h=>h.2,fun h1=>⟨by omega,h1⟩⟩

theorem ordQ_pos (p q:Rat):0 < ordQ p q ↔ q < p:=by
 rw [ordQ_eq]
 constructor
 ·intro h
  split at h
  ·omega
  ·split at h
   ·assumption
   ·omega
 ·intro h
  rw [if_neg (by grind),if_pos h]
  decide

open Classical in
set_option maxRecDepth 100000 in
set_option maxHeartbeats 3200000 in
theorem over1_any {S:Sys} {s M:Nat} (hf:Fair S s M) {t:Sim} (hi:Inv S t) {L:Spots} {bx l:Nat} (w:World) (hT:TabV w S t L) (hb:w.cell? ⟨bx,0,none⟩ = some (.pointer (some ⟨L.p,0,none⟩))) (hl:l < S.m) :
  Calls Try.prog 72 #[.int .i64 (l:Int),.pointer (some ⟨bx,0,none⟩)] w fun e w'=>e = .returned (.bool (decide (S.Over t l))) ∧ Below w.heap.size w w':=by
 obtain ⟨hn,hm⟩:=And.intro hf.n hf.m
 have hm0:0 < S.m:=by omega
 have hk:=hT.told l hl
 have hv:=hi.at'.toldLt l hl
 have e3:=hT.at_ hm0
 have k3:=hT.c3
 rw [e3] at k3
 have k0:=hT.c0
 rcases Nat.lt_or_ge (t.told l) S.n with hlt | hge
 ·have HD:Hid (decide (S.Over t l) = false):=hide (decide_eq_false fun h=>by have:=h.1; omega)
  generalize decide (S.Over t l) = r at *
  generalize t.told l = v at *
  have e1:decide ((S.n:Int) ≤ (v:Int)) = false:=decide_eq_false (by omega)
  have e2:¬ ((S.n:Int) ≤ (v:Int)):=by omega
  rw [HD.out]
  clear HD
  generalize S.n = n at *
  generalize S.m = m at *
  clear hT hi hf
  go_enter Try.func72,Try.ntmps72
  go_upto_region 2 with (fail)
  have hS0:w.cell? ⟨bx,0,none⟩ = some (.pointer (some ⟨L.p,0,none⟩)) ∧ w.cell? ⟨L.p,0,none⟩ = some (.int .i64 (n:Int)) ∧ Below w.heap.size w w.drew:=⟨hb,k0,(Below.refl _ _).drew⟩
  refine wp_region_held_drew (S:=fun w'=>w'.cell? ⟨bx,0,none⟩ = some (.pointer (some ⟨L.p,0,none⟩)) ∧ w'.cell? ⟨L.p,0,none⟩ = some (.int .i64 (n:Int)) ∧ Below w.heap.size w w') (by kernel_rfl) (hS0) (fun hS=>?_)
  refine tkH 0 ⟨some 12,.move (.tmp 4),3,"simplex.go:98",#[],none⟩ hS ?_
  try simp only [Act.put,sB,sC,sD]
  refine tkH 1 ⟨some 13,.load 101 (.tmp 1),101,"simplex.go:98",#[],none⟩ hS ?_
  try simp only [Act.put,sB,sC,sD]
  refine tkH 2 ⟨some 14,.nilCheck (.tmp 13),0,"simplex.go:98",#[eD 1],none⟩ hS ?_
  try simp only [Act.put,sB,sC,sD]
  refine tkH 3 ⟨some 15,.fieldAddr 108 (.tmp 14) 0,0,"simplex.go:98",#[eD 2],none⟩ hS ?_
  try simp only [Act.put,sB,sC,sD]
  refine tkH 4 ⟨some 16,.load 3 (.tmp 15),3,"simplex.go:98",#[eD 3],none⟩ hS ?_
  try simp only [Act.put,sB,sC,sD]
  refine tkH 5 ⟨some 17,.binOp .geq 3 (.tmp 12) (.tmp 16) 3,4,"simplex.go:98",#[eD 0,eD 4],none⟩ hS ?_
  try simp only [Act.put,sB,sC,sD]
  refine tkH 6 ⟨some 18,.move (.tmp 17),4,"simplex.go:98",#[eD 5],none⟩ hS ?_
  try simp only [Act.put,sB,sC,sD]
  refine wpAnyH_take (i:=7) (oi:=⟨some 19,.load 101 (.tmp 1),101,"simplex.go:98",#[eG 6],some (6,true)⟩) (v:=undef) rfl (by kernel_rfl) (by kernel_rfl) (by kernel_rfl) (fun _ _ _ h=>h) (Or.inr ⟨by rfl,rfl⟩) hS ?_
  try simp only [Act.put,sB,sC,sD]
  refine wpAnyH_take (i:=8) (oi:=⟨some 20,.nilCheck (.tmp 19),0,"simplex.go:98",#[eD 7,eG 6],some (6,true)⟩) (v:=undef) rfl (by kernel_rfl) (by kernel_rfl) (by kernel_rfl) (fun _ _ _ h=>h) (Or.inr ⟨by rfl,rfl⟩) hS ?_
  try simp only [Act.put,sB,sC,sD]
  refine wpAnyH_take (i:=9) (oi:=⟨some 21,.fieldAddr 108 (.tmp 20) 2,0,"simplex.go:98",#[eD 8,eG 6],some (6,true)⟩) (v:=undef) rfl (by kernel_rfl) (by kernel_rfl) (by kernel_rfl) (fun _ _ _ h=>h) (Or.inr ⟨by rfl,rfl⟩) hS ?_
  try simp only [Act.put,sB,sC,sD]
  refine wpAnyH_take (i:=10) (oi:=⟨some 22,.load 61 (.tmp 21),61,"simplex.go:98",#[eD 9,eG 6],some (6,true)⟩) (v:=undef) rfl (by kernel_rfl) (by kernel_rfl) (by kernel_rfl) (fun _ _ _ h=>h) (Or.inr ⟨by rfl,rfl⟩) hS ?_
  try simp only [Act.put,sB,sC,sD]
  refine wpAnyH_take (i:=11) (oi:=⟨some 23,.move (.tmp 4),3,"simplex.go:98",#[eG 6],some (6,true)⟩) (v:=undef) rfl (by kernel_rfl) (by kernel_rfl) (by kernel_rfl) (fun _ _ _ h=>h) (Or.inr ⟨by rfl,rfl⟩) hS ?_
  try simp only [Act.put,sB,sC,sD]
  refine wpAnyH_take (i:=12) (oi:=⟨some 24,.indexAddr 61 (.tmp 22) (.tmp 23),0,"simplex.go:98",#[eD 10,eD 11,eG 6],some (6,true)⟩) (v:=undef) rfl (by kernel_rfl) (by kernel_rfl) (by kernel_rfl) (fun _ _ _ h=>h) (Or.inr ⟨by rfl,rfl⟩) hS ?_
  try simp only [Act.put,sB,sC,sD]
  refine wpAnyH_take (i:=13) (oi:=⟨some 25,.load 71 (.tmp 24),71,"simplex.go:98",#[eD 12,eG 6],some (6,true)⟩) (v:=undef) rfl (by kernel_rfl) (by kernel_rfl) (by kernel_rfl) (fun _ _ _ h=>h) (Or.inr ⟨by rfl,rfl⟩) hS ?_
  try simp only [Act.put,sB,sC,sD]
  refine wpAnyH_take (i:=14) (oi:=⟨some 26,.load 101 (.tmp 1),101,"simplex.go:98",#[eG 6],some (6,true)⟩) (v:=undef) rfl (by kernel_rfl) (by kernel_rfl) (by kernel_rfl) (fun _ _ _ h=>h) (Or.inr ⟨by rfl,rfl⟩) hS ?_
  try simp only [Act.put,sB,sC,sD]
  refine wpAnyH_take (i:=15) (oi:=⟨some 27,.nilCheck (.tmp 26),0,"simplex.go:98",#[eD 14,eG 6],some (6,true)⟩) (v:=undef) rfl (by kernel_rfl) (by kernel_rfl) (by kernel_rfl) (fun _ _ _ h=>h) (Or.inr ⟨by rfl,rfl⟩) hS ?_
  try simp only [Act.put,sB,sC,sD]
  refine wpAnyH_take (i:=16) (oi:=⟨some 28,.fieldAddr 108 (.tmp 27) 1,0,"simplex.go:98",#[eD 15,eG 6],some (6,true)⟩) (v:=undef) rfl (by kernel_rfl) (by kernel_rfl) (by kernel_rfl) (fun _ _ _ h=>h) (Or.inr ⟨by rfl,rfl⟩) hS ?_
  try simp only [Act.put,sB,sC,sD]
  refine wpAnyH_take (i:=17) (oi:=⟨some 29,.load 61 (.tmp 28),61,"simplex.go:98",#[eD 16,eG 6],some (6,true)⟩) (v:=undef) rfl (by kernel_rfl) (by kernel_rfl) (by kernel_rfl) (fun _ _ _ h=>h) (Or.inr ⟨by rfl,rfl⟩) hS ?_
  try simp only [Act.put,sB,sC,sD]
  refine wpAnyH_take (i:=18) (oi:=⟨some 30,.move (.tmp 4),3,"simplex.go:98",#[eG 6],some (6,true)⟩) (v:=undef) rfl (by kernel_rfl) (by kernel_rfl) (by kernel_rfl) (fun _ _ _ h=>h) (Or.inr ⟨by rfl,rfl⟩) hS ?_
  try simp only [Act.put,sB,sC,sD]
  refine wpAnyH_take (i:=19) (oi:=⟨some 31,.load 101 (.tmp 1),101,"simplex.go:98",#[eG 6],some (6,true)⟩) (v:=undef) rfl (by kernel_rfl) (by kernel_rfl) (by kernel_rfl) (fun _ _ _ h=>h) (Or.inr ⟨by rfl,rfl⟩) hS ?_
  try simp only [Act.put,sB,sC,sD]
  refine wpAnyH_take (i:=20) (oi:=⟨some 32,.nilCheck (.tmp 31),0,"simplex.go:98",#[eD 19,eG 6],some (6,true)⟩) (v:=undef) rfl (by kernel_rfl) (by kernel_rfl) (by kernel_rfl) (fun _ _ _ h=>h) (Or.inr ⟨by rfl,rfl⟩) hS ?_
  try simp only [Act.put,sB,sC,sD]
  refine wpAnyH_take (i:=21) (oi:=⟨some 33,.fieldAddr 108 (.tmp 32) 0,0,"simplex.go:98",#[eD 20,eG 6],some (6,true)⟩) (v:=undef) rfl (by kernel_rfl) (by kernel_rfl) (by kernel_rfl) (fun _ _ _ h=>h) (Or.inr ⟨by rfl,rfl⟩) hS ?_
  try simp only [Act.put,sB,sC,sD]
  refine wpAnyH_take (i:=22) (oi:=⟨some 34,.load 3 (.tmp 33),3,"simplex.go:98",#[eD 21,eG 6],some (6,true)⟩) (v:=undef) rfl (by kernel_rfl) (by kernel_rfl) (by kernel_rfl) (fun _ _ _ h=>h) (Or.inr ⟨by rfl,rfl⟩) hS ?_
  try simp only [Act.put,sB,sC,sD]
  refine wpAnyH_take (i:=23) (oi:=⟨some 35,.binOp .sub 3 (.tmp 30) (.tmp 34) 3,3,"simplex.go:98",#[eD 18,eD 22,eG 6],some (6,true)⟩) (v:=undef) rfl (by kernel_rfl) (by kernel_rfl) (by kernel_rfl) (fun _ _ _ h=>h) (Or.inr ⟨by rfl,rfl⟩) hS ?_
  try simp only [Act.put,sB,sC,sD]
  refine wpAnyH_take (i:=24) (oi:=⟨some 36,.indexAddr 61 (.tmp 29) (.tmp 35),0,"simplex.go:98",#[eD 17,eD 23,eG 6],some (6,true)⟩) (v:=undef) rfl (by kernel_rfl) (by kernel_rfl) (by kernel_rfl) (fun _ _ _ h=>h) (Or.inr ⟨by rfl,rfl⟩) hS ?_
  try simp only [Act.put,sB,sC,sD]
  refine wpAnyH_take (i:=25) (oi:=⟨some 37,.load 71 (.tmp 36),71,"simplex.go:98",#[eD 24,eG 6],some (6,true)⟩) (v:=undef) rfl (by kernel_rfl) (by kernel_rfl) (by kernel_rfl) (fun _ _ _ h=>h) (Or.inr ⟨by rfl,rfl⟩) hS ?_
  try simp only [Act.put,sB,sC,sD]
  refine wpAnyH_take (i:=26) (oi:=⟨some 38,.call { callee:=.value (.func 61),args:=#[.tmp 25,.tmp 37],argTypes:=#[71,71] },3,"simplex.go:98",#[eD 13,eD 25,eC 6,eG 6],some (6,true)⟩) (v:=undef) rfl (by kernel_rfl) (by kernel_rfl) (by kernel_rfl) (fun _ _ _ h=>h) (Or.inr ⟨by rfl,rfl⟩) hS ?_
  try simp only [Act.put,sB,sC,sD]
  refine wpAnyH_take (i:=27) (oi:=⟨some 39,.binOp .gtr 3 (.tmp 38) (.const (.int .i64 0)) 3,4,"simplex.go:98",#[eD 26,eG 6],some (6,true)⟩) (v:=undef) rfl (by kernel_rfl) (by kernel_rfl) (by kernel_rfl) (fun _ _ _ h=>h) (Or.inr ⟨by rfl,rfl⟩) hS ?_
  try simp only [Act.put,sB,sC,sD]
  refine tkH 28 ⟨some 40,.pick (.tmp 18) (.tmp 39) (.const (.bool false)),4,"simplex.go:98",#[eD 6,eD 27],none⟩ hS ?_
  try simp only [Act.put,sB,sC,sD]
  refine tkH 29 ⟨some 3,.assign (.tmp 40),4,"simplex.go:98",#[eD 28,eC 26,eP 0,eP 1,eP 2,eP 3,eP 4,eP 5,eP 6,eP 7,eP 8,eP 9,eP 10,eP 11,eP 12,eP 13,eP 14,eP 15,eP 16,eP 17,eP 18,eP 19,eP 20,eP 21,eP 22,eP 23,eP 24,eP 25,eP 26,eP 27,eP 28],none⟩ hS ?_
  try simp only [Act.put,sB,sC,sD]
  refine wpAnyH_done (by kernel_rfl) ?_ _
  go_wp2_with fail
  go_ret
  exact ⟨rfl,hS.2.2⟩
 ·obtain ⟨D,he⟩:∃ D,t.told l = S.n + D:=⟨t.told l - S.n,by omega⟩
  have hD:D < S.m:=by omega
  have e1m:=hT.am hm0
  have e2m:=hT.av (by omega)
  have k1:=hT.c1
  have k2:=hT.c2
  rw [e1m] at k1
  rw [e2m] at k2
  obtain ⟨xn,xa,xl,xk,xm,xb,xi,xj,x0,x1,x2,x3,hx⟩:=hT.val (S.n + D) (by omega)
  obtain ⟨yn,ya,yl,yk,ym,yb,yi,yj,y0,y1,y2,y3,hy⟩:=hT.most D hD
  have zx:Qz (t.val (S.n + D)):=(hf.val hi (by omega)).z (by decide)
  have zy:Qz (S.most D):=(hf.mostZ hD).z (by decide)
  have HD:Hid (decide (S.Over t l) = decide (S.most D < t.val (S.n + D))):=hide (by simp only [over_iff he])
  rw [HD.out]
  clear HD
  obtain ⟨C,hC⟩:∃ C,ordQ (t.val (S.n + D)) (S.most D) = C:=⟨_,rfl⟩
  have HR:Hid (decide (S.most D < t.val (S.n + D)) = decide (0 < C)):=hide (by rw [← hC]; exact decide_eq_decide.mpr (ordQ_pos _ _).symm)
  rw [HR.out]
  have HC:=hide hC
  clear HR hC
  rw [← he] at x0 x1 x2 x3
  generalize t.told l = v at *
  generalize t.val (S.n + D) = X at *
  generalize S.most D = Y at *
  generalize S.n = n at *
  generalize S.m = m at *
  clear hT hi hf
  have e1:decide ((n:Int) ≤ (v:Int)) = true:=decide_eq_true (by omega)
  have e2:(n:Int) ≤ (v:Int):=by omega
  have e4:(v:Int) - (n:Int) = (D:Int):=by omega
  have e5:(v:Int) < (n:Int) + (m:Int):=by omega
  have e6:(D:Int) < (m:Int):=by omega
  have e7:IntKind.i64.wrap (D:Int) = (D:Int):=IntWalk.i64_in _ (by omega)
  replace he:=hide he
  go_enter Try.func72,Try.ntmps72
  go_upto_region 2 with (fail)
  have hS0:w.cell? ⟨bx,0,none⟩ = some (.pointer (some ⟨L.p,0,none⟩)) ∧ w.cell? ⟨L.p,0,none⟩ = some (.int .i64 (n:Int)) ∧ w.cell? ⟨L.p,1,none⟩ = some (.slice (some ⟨L.gm,0,none⟩) m L.km) ∧ w.cell? ⟨L.p,2,none⟩ = some (.slice (some ⟨L.gv,0,none⟩) (n + m) L.kv) ∧ w.cell? ⟨L.gv,v * 4,none⟩ = some (.bool xn) ∧ w.cell? ⟨L.gv,v * 4 + 1,none⟩ = some (.slice xa xl xk) ∧ w.cell? ⟨L.gv,v * 4 + 2,none⟩ = some (.bool xm) ∧ w.cell? ⟨L.gv,v * 4 + 3,none⟩ = some (.slice xb xi xj) ∧ w.cell? ⟨L.gm,D * 4,none⟩ = some (.bool yn) ∧ w.cell? ⟨L.gm,D * 4 + 1,none⟩ = some (.slice ya yl yk) ∧ w.cell? ⟨L.gm,D * 4 + 2,none⟩ = some (.bool ym) ∧ w.cell? ⟨L.gm,D * 4 + 3,none⟩ = some (.slice yb yi yj) ∧ Below w.heap.size w w.drew:=⟨hb,k0,k1,k2,x0,x1,x2,x3,y0,y1,y2,y3,(Below.refl _ _).drew⟩
  clear hb k0 k1 k2 x0 x1 x2 x3 y0 y1 y2 y3
  refine wp_region_held_drew (S:=fun w'=>w'.cell? ⟨bx,0,none⟩ = some (.pointer (some ⟨L.p,0,none⟩)) ∧ w'.cell? ⟨L.p,0,none⟩ = some (.int .i64 (n:Int)) ∧ w'.cell? ⟨L.p,1,none⟩ = some (.slice (some ⟨L.gm,0,none⟩) m L.km) ∧ w'.cell? ⟨L.p,2,none⟩ = some (.slice (some ⟨L.gv,0,none⟩) (n + m) L.kv) ∧ w'.cell? ⟨L.gv,v * 4,none⟩ = some (.bool xn) ∧ w'.cell? ⟨L.gv,v * 4 + 1,none⟩ = some (.slice xa xl xk) ∧ w'.cell? ⟨L.gv,v * 4 + 2,none⟩ = some (.bool xm) ∧ w'.cell? ⟨L.gv,v * 4 + 3,none⟩ = some (.slice xb xi xj) ∧ w'.cell? ⟨L.gm,D * 4,none⟩ = some (.bool yn) ∧ w'.cell? ⟨L.gm,D * 4 + 1,none⟩ = some (.slice ya yl yk) ∧ w'.cell? ⟨L.gm,D * 4 + 2,none⟩ = some (.bool ym) ∧ w'.cell? ⟨L.gm,D * 4 + 3,none⟩ = some (.slice yb yi yj) ∧ Below w.heap.size w w') (by kernel_rfl) (hS0) (fun hS=>?_)
  refine tkH 0 ⟨some 12,.move (.tmp 4),3,"simplex.go:98",#[],none⟩ hS ?_
  try simp only [Act.put,sB,sC,sD]
  refine tkH 1 ⟨some 13,.load 101 (.tmp 1),101,"simplex.go:98",#[],none⟩ hS ?_
  try simp only [Act.put,sB,sC,sD]
  refine tkH 2 ⟨some 14,.nilCheck (.tmp 13),0,"simplex.go:98",#[eD 1],none⟩ hS ?_
  try simp only [Act.put,sB,sC,sD]
  refine tkH 3 ⟨some 15,.fieldAddr 108 (.tmp 14) 0,0,"simplex.go:98",#[eD 2],none⟩ hS ?_
  try simp only [Act.put,sB,sC,sD]
  refine tkH 4 ⟨some 16,.load 3 (.tmp 15),3,"simplex.go:98",#[eD 3],none⟩ hS ?_
  try simp only [Act.put,sB,sC,sD]
  refine tkH 5 ⟨some 17,.binOp .geq 3 (.tmp 12) (.tmp 16) 3,4,"simplex.go:98",#[eD 0,eD 4],none⟩ hS ?_
  try simp only [Act.put,sB,sC,sD]
  refine tkH 6 ⟨some 18,.move (.tmp 17),4,"simplex.go:98",#[eD 5],none⟩ hS ?_
  try simp only [Act.put,sB,sC,sD]
  refine tkH 7 ⟨some 19,.load 101 (.tmp 1),101,"simplex.go:98",#[eG 6],some (6,true)⟩ hS ?_
  try simp only [Act.put,sB,sC,sD]
  refine tkH 8 ⟨some 20,.nilCheck (.tmp 19),0,"simplex.go:98",#[eD 7,eG 6],some (6,true)⟩ hS ?_
  try simp only [Act.put,sB,sC,sD]
  refine tkH 9 ⟨some 21,.fieldAddr 108 (.tmp 20) 2,0,"simplex.go:98",#[eD 8,eG 6],some (6,true)⟩ hS ?_
  try simp only [Act.put,sB,sC,sD]
  refine tkH 10 ⟨some 22,.load 61 (.tmp 21),61,"simplex.go:98",#[eD 9,eG 6],some (6,true)⟩ hS ?_
  try simp only [Act.put,sB,sC,sD]
  refine tkH 11 ⟨some 23,.move (.tmp 4),3,"simplex.go:98",#[eG 6],some (6,true)⟩ hS ?_
  try simp only [Act.put,sB,sC,sD]
  refine tkH 12 ⟨some 24,.indexAddr 61 (.tmp 22) (.tmp 23),0,"simplex.go:98",#[eD 10,eD 11,eG 6],some (6,true)⟩ hS ?_
  try simp only [Act.put,sB,sC,sD]
  refine tkH 13 ⟨some 25,.load 71 (.tmp 24),71,"simplex.go:98",#[eD 12,eG 6],some (6,true)⟩ hS ?_
  try simp only [Act.put,sB,sC,sD]
  refine tkH 14 ⟨some 26,.load 101 (.tmp 1),101,"simplex.go:98",#[eG 6],some (6,true)⟩ hS ?_
  try simp only [Act.put,sB,sC,sD]
  refine tkH 15 ⟨some 27,.nilCheck (.tmp 26),0,"simplex.go:98",#[eD 14,eG 6],some (6,true)⟩ hS ?_
  try simp only [Act.put,sB,sC,sD]
  refine tkH 16 ⟨some 28,.fieldAddr 108 (.tmp 27) 1,0,"simplex.go:98",#[eD 15,eG 6],some (6,true)⟩ hS ?_
  try simp only [Act.put,sB,sC,sD]
  refine tkH 17 ⟨some 29,.load 61 (.tmp 28),61,"simplex.go:98",#[eD 16,eG 6],some (6,true)⟩ hS ?_
  try simp only [Act.put,sB,sC,sD]
  refine tkH 18 ⟨some 30,.move (.tmp 4),3,"simplex.go:98",#[eG 6],some (6,true)⟩ hS ?_
  try simp only [Act.put,sB,sC,sD]
  refine tkH 19 ⟨some 31,.load 101 (.tmp 1),101,"simplex.go:98",#[eG 6],some (6,true)⟩ hS ?_
  try simp only [Act.put,sB,sC,sD]
  refine tkH 20 ⟨some 32,.nilCheck (.tmp 31),0,"simplex.go:98",#[eD 19,eG 6],some (6,true)⟩ hS ?_
  try simp only [Act.put,sB,sC,sD]
  refine tkH 21 ⟨some 33,.fieldAddr 108 (.tmp 32) 0,0,"simplex.go:98",#[eD 20,eG 6],some (6,true)⟩ hS ?_
  try simp only [Act.put,sB,sC,sD]
  refine tkH 22 ⟨some 34,.load 3 (.tmp 33),3,"simplex.go:98",#[eD 21,eG 6],some (6,true)⟩ hS ?_
  try simp only [Act.put,sB,sC,sD]
  refine tkH 23 ⟨some 35,.binOp .sub 3 (.tmp 30) (.tmp 34) 3,3,"simplex.go:98",#[eD 18,eD 22,eG 6],some (6,true)⟩ hS ?_
  try simp only [Act.put,sB,sC,sD]
  refine tkH 24 ⟨some 36,.indexAddr 61 (.tmp 29) (.tmp 35),0,"simplex.go:98",#[eD 17,eD 23,eG 6],some (6,true)⟩ hS ?_
  try simp only [Act.put,sB,sC,sD]
  refine tkH 25 ⟨some 37,.load 71 (.tmp 36),71,"simplex.go:98",#[eD 24,eG 6],some (6,true)⟩ hS ?_
  try simp only [Act.put,sB,sC,sD]
  refine wpAnyH_ready (rs:=[26]) (by kernel_rfl) (by simp) ?_
  refine AllReadyH.cons (o:=⟨some 38,.call { callee:=.value (.func 61),args:=#[.tmp 25,.tmp 37],argTypes:=#[71,71] },3,"simplex.go:98",#[eD 13,eD 25,eC 6,eG 6],some (6,true)⟩) rfl (fun K hK=>?_) AllReadyH.nil
  go_simp
  (go_at_call 61; (with_reducible refine (FCmp_at (hx.below (hS.2.2.2.2.2.2.2.2.2.2.2.2) (Nat.le_refl _)) (hy.below (hS.2.2.2.2.2.2.2.2.2.2.2.2) (Nat.le_refl _)) zx zy HC.out).mono ?_); rintro e wn ⟨rfl,hb1⟩)
  go_wp2_with fail
  refine hK.out _ _ (keepZ12 hS hb1) (fun hS=>?_)
  clear hK K hb1
  try simp only [Act.put,sB,sC,sD]
  refine tkH 27 ⟨some 39,.binOp .gtr 3 (.tmp 38) (.const (.int .i64 0)) 3,4,"simplex.go:98",#[eD 26,eG 6],some (6,true)⟩ hS ?_
  try simp only [Act.put,sB,sC,sD]
  refine tkH 28 ⟨some 40,.pick (.tmp 18) (.tmp 39) (.const (.bool false)),4,"simplex.go:98",#[eD 6,eD 27],none⟩ hS ?_
  try simp only [Act.put,sB,sC,sD]
  refine tkH 29 ⟨some 3,.assign (.tmp 40),4,"simplex.go:98",#[eD 28,eC 26,eP 0,eP 1,eP 2,eP 3,eP 4,eP 5,eP 6,eP 7,eP 8,eP 9,eP 10,eP 11,eP 12,eP 13,eP 14,eP 15,eP 16,eP 17,eP 18,eP 19,eP 20,eP 21,eP 22,eP 23,eP 24,eP 25,eP 26,eP 27,eP 28],none⟩ hS ?_
  try simp only [Act.put,sB,sC,sD]
  refine wpAnyH_done (by kernel_rfl) ?_ _
  go_wp2_with fail
  go_ret
  exact ⟨rfl,hS.2.2.2.2.2.2.2.2.2.2.2.2⟩

open Classical in
theorem over1_at {S:Sys} {s M:Nat} (hf:Fair S s M) {t:Sim} (hi:Inv S t) {L:Spots} {bx l:Nat} {w:World} (hT:TabV w S t L) (hb:w.cell? ⟨bx,0,none⟩ = some (.pointer (some ⟨L.p,0,none⟩))) (hl:l < S.m) {r:Bool} (hr:r = true ↔ S.Over t l) :
  Calls Try.prog 72 #[.int .i64 (l:Int),.pointer (some ⟨bx,0,none⟩)] w fun e w'=>e = .returned (.bool r) ∧ Below w.heap.size w w':=by
 refine (over1_any hf hi w hT hb hl).mono ?_
 rintro e w' ⟨rfl,h⟩
 refine ⟨?_,h⟩
 congr 2
 rw [Bool.eq_iff_iff,decide_eq_true_iff]
 exact hr.symm

theorem First.step {n:Nat} {p:Nat → Prop} {f:Nat → Nat} {b:Nat} (h:First n p f b) (hn:¬p n ∨ f b ≤ f n):First (n + 1) p f b:=
 ⟨by have:=h.1; omega,h.2.1,fun i hi hp=>by
  rcases Nat.lt_or_ge i n with h1 | h1
  ·exact h.2.2 i h1 hp
  ·obtain rfl:i = n:=by omega
   rcases hn with hn | hn
   ·exact absurd hp hn
   ·exact hn⟩
theorem First.new {n:Nat} {p:Nat → Prop} {f:Nat → Nat} (hp:p n) (h:∀ i,i < n → p i → f n ≤ f i):First (n + 1) p f n:=
 ⟨by omega,hp,fun i hi hpi=>by
  rcases Nat.lt_or_ge i n with h1 | h1
  ·exact h i h1 hpi
  ·obtain rfl:i = n:=by omega
   exact Nat.le_refl _⟩
def FirstPost (w:World) (n:Nat) (p:Nat → Prop) (f:Nat → Nat) (e:Ending) (w':World):Prop:=
 Below w.heap.size w w' ∧ ((∃ l,First n p f l ∧ e = .returned (.tuple #[.int .i64 (l:Int),.bool true])) ∨ ((∀ l,l < n → ¬p l) ∧ ∃ k:Int,e = .returned (.tuple #[.int .i64 k,.bool false])))
def FirstSo (j:Nat) (p:Nat → Prop) (f:Nat → Nat) (v5 v6:Value):Prop:=
 (v5 = .int .i64 0 ∧ v6 = .bool false ∧ ∀ l,l < j → ¬p l) ∨ ∃ b:Nat,v5 = .int .i64 (b:Int) ∧ v6 = .bool true ∧ First j p f b

set_option maxRecDepth 100000 in
set_option maxHeartbeats 3200000 in
theorem over_any {S:Sys} {s M:Nat} (hf:Fair S s M) {t:Sim} (hi:Inv S t) {L:Spots} (w:World) (hT:TabV w S t L) :
  Calls Try.prog 54 #[.pointer (some ⟨L.p,0,none⟩)] w (FirstPost w S.m (S.Over t) t.told):=by
 generalize hP:FirstPost w S.m (S.Over t) t.told = Post
 have HP:=hide hP
 clear hP
 obtain ⟨W,hW⟩:∃ W,w.alloc (.cells #[.pointer (some ⟨L.p,0,none⟩)] 101) = W:=⟨_,rfl⟩
 have bx:Blk W w.heap.size 101 #[.pointer (some ⟨L.p,0,none⟩)]:=by rw [← hW]; exact Blk.new w _ _
 have sb:Below w.heap.size w W:=by rw [← hW]; exact (Below.refl w.heap.size w).alloc (Nat.le_refl _) _
 have HW:=hide hW
 clear hW
 have b0:=bx.cell 0
 have hT1:=hT.below sb
 have k3:=hT1.c3
 go_enter Try.func54,Try.ntmps54
 go_upto_region 1 with (fail)
 rw [HW.out]
 clear HW
 go_wp2_with fail
 have hn:=hf.n
 have hm:=hf.m
 go_loopg [5,6,14] S.m (fun k v5 v6 v14 wr=>∃ j:Nat,j + k = S.m ∧ v14 = .int .i64 (j:Int) ∧ Hid (FirstSo j (S.Over t) t.told v5 v6) ∧ Below W.heap.size W wr)
 case atStart=>exact ⟨0,by omega,rfl,hide (.inl ⟨rfl,rfl,fun l h=>absurd h (Nat.not_lt_zero _)⟩),Below.refl _ _⟩
 case round=>
  obtain ⟨j,hjk,rfl,HF,hB⟩:=hrel
  have hT2:=hT1.below hB
  rcases Nat.eq_zero_or_pos gk with h0 | h0
  ·subst h0
   obtain rfl:j = S.m:=by omega
   have sb1:=sb.trans (hB.mono sb.size)
   rcases HF.out with ⟨rfl,rfl,hno⟩ | ⟨b,rfl,rfl,hfi⟩
   ·go_wp2_with fail
    rw [← HP.out]
    exact ⟨sb1,.inr ⟨hno,0,rfl⟩⟩
   ·go_wp2_with fail
    rw [← HP.out]
    exact ⟨sb1,.inl ⟨b,hfi,rfl⟩⟩
  ·have hj:j < S.m:=by omega
   have ea:=hT.at_ (by omega)
   have kj:=hT2.told j hj
   have k3':=hT2.c3
   rw [ea] at k3'
   clear ea
   have b0':=cellB b0 hB (Nat.le_refl _)
   have ej:(j:Int) < (S.m:Int):=by omega
   rcases HF.out with ⟨rfl,rfl,hno⟩ | ⟨b,rfl,rfl,hfi⟩
   ·have hS0:wr.cell? ⟨w.heap.size,0,none⟩ = some (.pointer (some ⟨L.p,0,none⟩)) ∧ wr.cell? ⟨L.p,3,none⟩ = some (.slice (some ⟨L.gt,0,none⟩) S.m L.kt) ∧ wr.cell? ⟨L.gt,j,none⟩ = some (.int .i64 (t.told j:Int)) ∧ wr.cell? ⟨L.gt,j,none⟩ = some (.int .i64 (t.told j:Int)) ∧ Below W.heap.size W wr.drew:=⟨b0',k3',kj,kj,hB.drew⟩
    by_cases ho:S.Over t j
    ·have HN:Hid (FirstSo (j + 1) (S.Over t) t.told (.int .i64 (j:Int)) (.bool true)):=hide (.inr ⟨j,rfl,rfl,First.new ho fun i hi hp=>absurd hp (hno i hi)⟩)
     have HO:Hid (true = true ↔ S.Over t j):=hide ⟨fun _=>ho,fun _=>rfl⟩
     clear hno ho
     go_upto_region 6 with (fail)
     refine wp_region_held_drew (S:=fun w'=>w'.cell? ⟨w.heap.size,0,none⟩ = some (.pointer (some ⟨L.p,0,none⟩)) ∧ w'.cell? ⟨L.p,3,none⟩ = some (.slice (some ⟨L.gt,0,none⟩) S.m L.kt) ∧ w'.cell? ⟨L.gt,j,none⟩ = some (.int .i64 (t.told j:Int)) ∧ w'.cell? ⟨L.gt,j,none⟩ = some (.int .i64 (t.told j:Int)) ∧ Below W.heap.size W w') (by kernel_rfl) (hS0) (fun hS=>?_)
     refine tkH 0 ⟨some 17,.move (.tmp 6),4,"simplex.go:102",#[],none⟩ hS ?_
     try simp only [Act.put,sB,sC,sD]
     refine tkH 1 ⟨some 18,.unOp .not 4 (.tmp 17),4,"simplex.go:102",#[eD 0],none⟩ hS ?_
     try simp only [Act.put,sB,sC,sD]
     refine tkH 2 ⟨some 19,.move (.tmp 18),4,"simplex.go:102",#[eD 1],none⟩ hS ?_
     try simp only [Act.put,sB,sC,sD]
     refine wpAnyH_take (i:=3) (oi:=⟨some 20,.load 101 (.tmp 1),101,"simplex.go:102",#[eG 2],some (2,false)⟩) (v:=undef) rfl (by kernel_rfl) (by kernel_rfl) (by kernel_rfl) (fun _ _ _ h=>h) (Or.inr ⟨by rfl,rfl⟩) hS ?_
     try simp only [Act.put,sB,sC,sD]
     refine wpAnyH_take (i:=4) (oi:=⟨some 21,.nilCheck (.tmp 20),0,"simplex.go:102",#[eD 3,eG 2],some (2,false)⟩) (v:=undef) rfl (by kernel_rfl) (by kernel_rfl) (by kernel_rfl) (fun _ _ _ h=>h) (Or.inr ⟨by rfl,rfl⟩) hS ?_
     try simp only [Act.put,sB,sC,sD]
     refine wpAnyH_take (i:=5) (oi:=⟨some 22,.fieldAddr 108 (.tmp 21) 3,0,"simplex.go:102",#[eD 4,eG 2],some (2,false)⟩) (v:=undef) rfl (by kernel_rfl) (by kernel_rfl) (by kernel_rfl) (fun _ _ _ h=>h) (Or.inr ⟨by rfl,rfl⟩) hS ?_
     try simp only [Act.put,sB,sC,sD]
     refine wpAnyH_take (i:=6) (oi:=⟨some 23,.load 26 (.tmp 22),26,"simplex.go:102",#[eD 5,eG 2],some (2,false)⟩) (v:=undef) rfl (by kernel_rfl) (by kernel_rfl) (by kernel_rfl) (fun _ _ _ h=>h) (Or.inr ⟨by rfl,rfl⟩) hS ?_
     try simp only [Act.put,sB,sC,sD]
     refine wpAnyH_take (i:=7) (oi:=⟨some 24,.move (.tmp 7),3,"simplex.go:102",#[eG 2],some (2,false)⟩) (v:=undef) rfl (by kernel_rfl) (by kernel_rfl) (by kernel_rfl) (fun _ _ _ h=>h) (Or.inr ⟨by rfl,rfl⟩) hS ?_
     try simp only [Act.put,sB,sC,sD]
     refine wpAnyH_take (i:=8) (oi:=⟨some 25,.indexAddr 26 (.tmp 23) (.tmp 24),0,"simplex.go:102",#[eD 6,eD 7,eG 2],some (2,false)⟩) (v:=undef) rfl (by kernel_rfl) (by kernel_rfl) (by kernel_rfl) (fun _ _ _ h=>h) (Or.inr ⟨by rfl,rfl⟩) hS ?_
     try simp only [Act.put,sB,sC,sD]
     refine wpAnyH_take (i:=9) (oi:=⟨some 26,.load 3 (.tmp 25),3,"simplex.go:102",#[eD 8,eG 2],some (2,false)⟩) (v:=undef) rfl (by kernel_rfl) (by kernel_rfl) (by kernel_rfl) (fun _ _ _ h=>h) (Or.inr ⟨by rfl,rfl⟩) hS ?_
     try simp only [Act.put,sB,sC,sD]
     refine wpAnyH_take (i:=10) (oi:=⟨some 27,.load 101 (.tmp 1),101,"simplex.go:102",#[eG 2],some (2,false)⟩) (v:=undef) rfl (by kernel_rfl) (by kernel_rfl) (by kernel_rfl) (fun _ _ _ h=>h) (Or.inr ⟨by rfl,rfl⟩) hS ?_
     try simp only [Act.put,sB,sC,sD]
     refine wpAnyH_take (i:=11) (oi:=⟨some 28,.nilCheck (.tmp 27),0,"simplex.go:102",#[eD 10,eG 2],some (2,false)⟩) (v:=undef) rfl (by kernel_rfl) (by kernel_rfl) (by kernel_rfl) (fun _ _ _ h=>h) (Or.inr ⟨by rfl,rfl⟩) hS ?_
     try simp only [Act.put,sB,sC,sD]
     refine wpAnyH_take (i:=12) (oi:=⟨some 29,.fieldAddr 108 (.tmp 28) 3,0,"simplex.go:102",#[eD 11,eG 2],some (2,false)⟩) (v:=undef) rfl (by kernel_rfl) (by kernel_rfl) (by kernel_rfl) (fun _ _ _ h=>h) (Or.inr ⟨by rfl,rfl⟩) hS ?_
     try simp only [Act.put,sB,sC,sD]
     refine wpAnyH_take (i:=13) (oi:=⟨some 30,.load 26 (.tmp 29),26,"simplex.go:102",#[eD 12,eG 2],some (2,false)⟩) (v:=undef) rfl (by kernel_rfl) (by kernel_rfl) (by kernel_rfl) (fun _ _ _ h=>h) (Or.inr ⟨by rfl,rfl⟩) hS ?_
     try simp only [Act.put,sB,sC,sD]
     refine wpAnyH_take (i:=14) (oi:=⟨some 31,.move (.tmp 5),3,"simplex.go:102",#[eG 2],some (2,false)⟩) (v:=undef) rfl (by kernel_rfl) (by kernel_rfl) (by kernel_rfl) (fun _ _ _ h=>h) (Or.inr ⟨by rfl,rfl⟩) hS ?_
     try simp only [Act.put,sB,sC,sD]
     refine wpAnyH_take (i:=15) (oi:=⟨some 32,.indexAddr 26 (.tmp 30) (.tmp 31),0,"simplex.go:102",#[eD 13,eD 14,eG 2],some (2,false)⟩) (v:=undef) rfl (by kernel_rfl) (by kernel_rfl) (by kernel_rfl) (fun _ _ _ h=>h) (Or.inr ⟨by rfl,rfl⟩) hS ?_
     try simp only [Act.put,sB,sC,sD]
     refine wpAnyH_take (i:=16) (oi:=⟨some 33,.load 3 (.tmp 32),3,"simplex.go:102",#[eD 15,eG 2],some (2,false)⟩) (v:=undef) rfl (by kernel_rfl) (by kernel_rfl) (by kernel_rfl) (fun _ _ _ h=>h) (Or.inr ⟨by rfl,rfl⟩) hS ?_
     try simp only [Act.put,sB,sC,sD]
     refine wpAnyH_take (i:=17) (oi:=⟨some 34,.binOp .lss 3 (.tmp 26) (.tmp 33) 3,4,"simplex.go:102",#[eD 9,eD 16,eG 2],some (2,false)⟩) (v:=undef) rfl (by kernel_rfl) (by kernel_rfl) (by kernel_rfl) (fun _ _ _ h=>h) (Or.inr ⟨by rfl,rfl⟩) hS ?_
     try simp only [Act.put,sB,sC,sD]
     refine tkH 18 ⟨some 35,.pick (.tmp 19) (.const (.bool true)) (.tmp 34),4,"simplex.go:102",#[eD 2,eD 17],none⟩ hS ?_
     try simp only [Act.put,sB,sC,sD]
     refine tkH 19 ⟨some 36,.move (.tmp 35),4,"simplex.go:102",#[eD 18,eC 2],none⟩ hS ?_
     try simp only [Act.put,sB,sC,sD]
     refine tkH 20 ⟨some 37,.move (.tmp 4),122,"simplex.go:102",#[eG 19],some (19,true)⟩ hS ?_
     try simp only [Act.put,sB,sC,sD]
     refine tkH 21 ⟨some 38,.move (.tmp 7),3,"simplex.go:102",#[eG 19],some (19,true)⟩ hS ?_
     try simp only [Act.put,sB,sC,sD]
     refine wpAnyH_ready (rs:=[22]) (by kernel_rfl) (by simp) ?_
     refine AllReadyH.cons (o:=⟨some 39,.call { callee:=.value (.tmp 37),args:=#[.tmp 38],argTypes:=#[3] },4,"simplex.go:102",#[eD 20,eD 21,eC 19,eG 19],some (19,true)⟩) rfl (fun K hK=>?_) AllReadyH.nil
     go_simp
     (with_reducible refine (over1_at hf hi (hT1.below hS.2.2.2.2) hS.1 hj HO.out).mono ?_)
     rintro e wn ⟨rfl,hb1⟩
     go_wp2_with fail
     refine hK.out _ _ (keepZ4 hS hb1) (fun hS=>?_)
     clear hK K hb1
     try simp only [Act.put,sB,sC,sD]
     refine tkH 23 ⟨some 40,.pick (.tmp 36) (.tmp 39) (.const (.bool false)),4,"simplex.go:102",#[eD 19,eD 22],none⟩ hS ?_
     try simp only [Act.put,sB,sC,sD]
     refine wpAnyH_done (by kernel_rfl) ?_ _
     go_wp2_with fail
     go_roundg (gk - 1)
     case measure=>omega
     case rel=>exact ⟨j + 1,by omega,by go_num,HN,hS.2.2.2.2⟩
    ·have HN:Hid (FirstSo (j + 1) (S.Over t) t.told (.int .i64 0) (.bool false)):=hide (.inl ⟨rfl,rfl,fun i hi=>by
      rcases Nat.lt_or_ge i j with h1 | h1
      ·exact hno i h1
      ·obtain rfl:i = j:=by omega
       exact ho⟩)
     have HO:Hid (false = true ↔ S.Over t j):=hide ⟨fun h=>(by cases h),fun h=>absurd h ho⟩
     clear hno ho
     go_upto_region 6 with (fail)
     refine wp_region_held_drew (S:=fun w'=>w'.cell? ⟨w.heap.size,0,none⟩ = some (.pointer (some ⟨L.p,0,none⟩)) ∧ w'.cell? ⟨L.p,3,none⟩ = some (.slice (some ⟨L.gt,0,none⟩) S.m L.kt) ∧ w'.cell? ⟨L.gt,j,none⟩ = some (.int .i64 (t.told j:Int)) ∧ w'.cell? ⟨L.gt,j,none⟩ = some (.int .i64 (t.told j:Int)) ∧ Below W.heap.size W w') (by kernel_rfl) (hS0) (fun hS=>?_)
     refine tkH 0 ⟨some 17,.move (.tmp 6),4,"simplex.go:102",#[],none⟩ hS ?_
     try simp only [Act.put,sB,sC,sD]
     refine tkH 1 ⟨some 18,.unOp .not 4 (.tmp 17),4,"simplex.go:102",#[eD 0],none⟩ hS ?_
     try simp only [Act.put,sB,sC,sD]
     refine tkH 2 ⟨some 19,.move (.tmp 18),4,"simplex.go:102",#[eD 1],none⟩ hS ?_
     try simp only [Act.put,sB,sC,sD]
     refine wpAnyH_take (i:=3) (oi:=⟨some 20,.load 101 (.tmp 1),101,"simplex.go:102",#[eG 2],some (2,false)⟩) (v:=undef) rfl (by kernel_rfl) (by kernel_rfl) (by kernel_rfl) (fun _ _ _ h=>h) (Or.inr ⟨by rfl,rfl⟩) hS ?_
     try simp only [Act.put,sB,sC,sD]
     refine wpAnyH_take (i:=4) (oi:=⟨some 21,.nilCheck (.tmp 20),0,"simplex.go:102",#[eD 3,eG 2],some (2,false)⟩) (v:=undef) rfl (by kernel_rfl) (by kernel_rfl) (by kernel_rfl) (fun _ _ _ h=>h) (Or.inr ⟨by rfl,rfl⟩) hS ?_
     try simp only [Act.put,sB,sC,sD]
     refine wpAnyH_take (i:=5) (oi:=⟨some 22,.fieldAddr 108 (.tmp 21) 3,0,"simplex.go:102",#[eD 4,eG 2],some (2,false)⟩) (v:=undef) rfl (by kernel_rfl) (by kernel_rfl) (by kernel_rfl) (fun _ _ _ h=>h) (Or.inr ⟨by rfl,rfl⟩) hS ?_
     try simp only [Act.put,sB,sC,sD]
     refine wpAnyH_take (i:=6) (oi:=⟨some 23,.load 26 (.tmp 22),26,"simplex.go:102",#[eD 5,eG 2],some (2,false)⟩) (v:=undef) rfl (by kernel_rfl) (by kernel_rfl) (by kernel_rfl) (fun _ _ _ h=>h) (Or.inr ⟨by rfl,rfl⟩) hS ?_
     try simp only [Act.put,sB,sC,sD]
     refine wpAnyH_take (i:=7) (oi:=⟨some 24,.move (.tmp 7),3,"simplex.go:102",#[eG 2],some (2,false)⟩) (v:=undef) rfl (by kernel_rfl) (by kernel_rfl) (by kernel_rfl) (fun _ _ _ h=>h) (Or.inr ⟨by rfl,rfl⟩) hS ?_
     try simp only [Act.put,sB,sC,sD]
     refine wpAnyH_take (i:=8) (oi:=⟨some 25,.indexAddr 26 (.tmp 23) (.tmp 24),0,"simplex.go:102",#[eD 6,eD 7,eG 2],some (2,false)⟩) (v:=undef) rfl (by kernel_rfl) (by kernel_rfl) (by kernel_rfl) (fun _ _ _ h=>h) (Or.inr ⟨by rfl,rfl⟩) hS ?_
     try simp only [Act.put,sB,sC,sD]
     refine wpAnyH_take (i:=9) (oi:=⟨some 26,.load 3 (.tmp 25),3,"simplex.go:102",#[eD 8,eG 2],some (2,false)⟩) (v:=undef) rfl (by kernel_rfl) (by kernel_rfl) (by kernel_rfl) (fun _ _ _ h=>h) (Or.inr ⟨by rfl,rfl⟩) hS ?_
     try simp only [Act.put,sB,sC,sD]
     refine wpAnyH_take (i:=10) (oi:=⟨some 27,.load 101 (.tmp 1),101,"simplex.go:102",#[eG 2],some (2,false)⟩) (v:=undef) rfl (by kernel_rfl) (by kernel_rfl) (by kernel_rfl) (fun _ _ _ h=>h) (Or.inr ⟨by rfl,rfl⟩) hS ?_
     try simp only [Act.put,sB,sC,sD]
     refine wpAnyH_take (i:=11) (oi:=⟨some 28,.nilCheck (.tmp 27),0,"simplex.go:102",#[eD 10,eG 2],some (2,false)⟩) (v:=undef) rfl (by kernel_rfl) (by kernel_rfl) (by kernel_rfl) (fun _ _ _ h=>h) (Or.inr ⟨by rfl,rfl⟩) hS ?_
     try simp only [Act.put,sB,sC,sD]
     refine wpAnyH_take (i:=12) (oi:=⟨some 29,.fieldAddr 108 (.tmp 28) 3,0,"simplex.go:102",#[eD 11,eG 2],some (2,false)⟩) (v:=undef) rfl (by kernel_rfl) (by kernel_rfl) (by kernel_rfl) (fun _ _ _ h=>h) (Or.inr ⟨by rfl,rfl⟩) hS ?_
     try simp only [Act.put,sB,sC,sD]
     refine wpAnyH_take (i:=13) (oi:=⟨some 30,.load 26 (.tmp 29),26,"simplex.go:102",#[eD 12,eG 2],some (2,false)⟩) (v:=undef) rfl (by kernel_rfl) (by kernel_rfl) (by kernel_rfl) (fun _ _ _ h=>h) (Or.inr ⟨by rfl,rfl⟩) hS ?_
     try simp only [Act.put,sB,sC,sD]
     refine wpAnyH_take (i:=14) (oi:=⟨some 31,.move (.tmp 5),3,"simplex.go:102",#[eG 2],some (2,false)⟩) (v:=undef) rfl (by kernel_rfl) (by kernel_rfl) (by kernel_rfl) (fun _ _ _ h=>h) (Or.inr ⟨by rfl,rfl⟩) hS ?_
     try simp only [Act.put,sB,sC,sD]
     refine wpAnyH_take (i:=15) (oi:=⟨some 32,.indexAddr 26 (.tmp 30) (.tmp 31),0,"simplex.go:102",#[eD 13,eD 14,eG 2],some (2,false)⟩) (v:=undef) rfl (by kernel_rfl) (by kernel_rfl) (by kernel_rfl) (fun _ _ _ h=>h) (Or.inr ⟨by rfl,rfl⟩) hS ?_
     try simp only [Act.put,sB,sC,sD]
     refine wpAnyH_take (i:=16) (oi:=⟨some 33,.load 3 (.tmp 32),3,"simplex.go:102",#[eD 15,eG 2],some (2,false)⟩) (v:=undef) rfl (by kernel_rfl) (by kernel_rfl) (by kernel_rfl) (fun _ _ _ h=>h) (Or.inr ⟨by rfl,rfl⟩) hS ?_
     try simp only [Act.put,sB,sC,sD]
     refine wpAnyH_take (i:=17) (oi:=⟨some 34,.binOp .lss 3 (.tmp 26) (.tmp 33) 3,4,"simplex.go:102",#[eD 9,eD 16,eG 2],some (2,false)⟩) (v:=undef) rfl (by kernel_rfl) (by kernel_rfl) (by kernel_rfl) (fun _ _ _ h=>h) (Or.inr ⟨by rfl,rfl⟩) hS ?_
     try simp only [Act.put,sB,sC,sD]
     refine tkH 18 ⟨some 35,.pick (.tmp 19) (.const (.bool true)) (.tmp 34),4,"simplex.go:102",#[eD 2,eD 17],none⟩ hS ?_
     try simp only [Act.put,sB,sC,sD]
     refine tkH 19 ⟨some 36,.move (.tmp 35),4,"simplex.go:102",#[eD 18,eC 2],none⟩ hS ?_
     try simp only [Act.put,sB,sC,sD]
     refine tkH 20 ⟨some 37,.move (.tmp 4),122,"simplex.go:102",#[eG 19],some (19,true)⟩ hS ?_
     try simp only [Act.put,sB,sC,sD]
     refine tkH 21 ⟨some 38,.move (.tmp 7),3,"simplex.go:102",#[eG 19],some (19,true)⟩ hS ?_
     try simp only [Act.put,sB,sC,sD]
     refine wpAnyH_ready (rs:=[22]) (by kernel_rfl) (by simp) ?_
     refine AllReadyH.cons (o:=⟨some 39,.call { callee:=.value (.tmp 37),args:=#[.tmp 38],argTypes:=#[3] },4,"simplex.go:102",#[eD 20,eD 21,eC 19,eG 19],some (19,true)⟩) rfl (fun K hK=>?_) AllReadyH.nil
     go_simp
     (with_reducible refine (over1_at hf hi (hT1.below hS.2.2.2.2) hS.1 hj HO.out).mono ?_)
     rintro e wn ⟨rfl,hb1⟩
     go_wp2_with fail
     refine hK.out _ _ (keepZ4 hS hb1) (fun hS=>?_)
     clear hK K hb1
     try simp only [Act.put,sB,sC,sD]
     refine tkH 23 ⟨some 40,.pick (.tmp 36) (.tmp 39) (.const (.bool false)),4,"simplex.go:102",#[eD 19,eD 22],none⟩ hS ?_
     try simp only [Act.put,sB,sC,sD]
     refine wpAnyH_done (by kernel_rfl) ?_ _
     go_wp2_with fail
     go_roundg (gk - 1)
     case measure=>omega
     case rel=>exact ⟨j + 1,by omega,by go_num,HN,hS.2.2.2.2⟩
   ·have hb':b < S.m:=by have:=hfi.1; omega
    have eb:(b:Int) < (S.m:Int):=by omega
    have kb:=hT2.told b hb'
    have hS0:wr.cell? ⟨w.heap.size,0,none⟩ = some (.pointer (some ⟨L.p,0,none⟩)) ∧ wr.cell? ⟨L.p,3,none⟩ = some (.slice (some ⟨L.gt,0,none⟩) S.m L.kt) ∧ wr.cell? ⟨L.gt,j,none⟩ = some (.int .i64 (t.told j:Int)) ∧ wr.cell? ⟨L.gt,b,none⟩ = some (.int .i64 (t.told b:Int)) ∧ Below W.heap.size W wr.drew:=⟨b0',k3',kj,kb,hB.drew⟩
    rcases Nat.lt_or_ge (t.told j) (t.told b) with hlt | hge
    ·have e1:decide ((t.told j:Int) < (t.told b:Int)) = true:=decide_eq_true (by omega)
     have e2:(t.told j:Int) < (t.told b:Int):=by omega
     by_cases ho:S.Over t j
     ·have HN:Hid (FirstSo (j + 1) (S.Over t) t.told (.int .i64 (j:Int)) (.bool true)):=hide (.inr ⟨j,rfl,rfl,First.new ho fun i hi hp=>Nat.le_trans (Nat.le_of_lt hlt) (hfi.2.2 i hi hp)⟩)
      have HO:Hid (true = true ↔ S.Over t j):=hide ⟨fun _=>ho,fun _=>rfl⟩
      clear hfi ho
      go_upto_region 6 with (fail)
      refine wp_region_held_drew (S:=fun w'=>w'.cell? ⟨w.heap.size,0,none⟩ = some (.pointer (some ⟨L.p,0,none⟩)) ∧ w'.cell? ⟨L.p,3,none⟩ = some (.slice (some ⟨L.gt,0,none⟩) S.m L.kt) ∧ w'.cell? ⟨L.gt,j,none⟩ = some (.int .i64 (t.told j:Int)) ∧ w'.cell? ⟨L.gt,b,none⟩ = some (.int .i64 (t.told b:Int)) ∧ Below W.heap.size W w') (by kernel_rfl) (hS0) (fun hS=>?_)
      refine tkH 0 ⟨some 17,.move (.tmp 6),4,"simplex.go:102",#[],none⟩ hS ?_
      try simp only [Act.put,sB,sC,sD]
      refine tkH 1 ⟨some 18,.unOp .not 4 (.tmp 17),4,"simplex.go:102",#[eD 0],none⟩ hS ?_
      try simp only [Act.put,sB,sC,sD]
      refine tkH 2 ⟨some 19,.move (.tmp 18),4,"simplex.go:102",#[eD 1],none⟩ hS ?_
      try simp only [Act.put,sB,sC,sD]
      refine tkH 3 ⟨some 20,.load 101 (.tmp 1),101,"simplex.go:102",#[eG 2],some (2,false)⟩ hS ?_
      try simp only [Act.put,sB,sC,sD]
      refine tkH 4 ⟨some 21,.nilCheck (.tmp 20),0,"simplex.go:102",#[eD 3,eG 2],some (2,false)⟩ hS ?_
      try simp only [Act.put,sB,sC,sD]
      refine tkH 5 ⟨some 22,.fieldAddr 108 (.tmp 21) 3,0,"simplex.go:102",#[eD 4,eG 2],some (2,false)⟩ hS ?_
      try simp only [Act.put,sB,sC,sD]
      refine tkH 6 ⟨some 23,.load 26 (.tmp 22),26,"simplex.go:102",#[eD 5,eG 2],some (2,false)⟩ hS ?_
      try simp only [Act.put,sB,sC,sD]
      refine tkH 7 ⟨some 24,.move (.tmp 7),3,"simplex.go:102",#[eG 2],some (2,false)⟩ hS ?_
      try simp only [Act.put,sB,sC,sD]
      refine tkH 8 ⟨some 25,.indexAddr 26 (.tmp 23) (.tmp 24),0,"simplex.go:102",#[eD 6,eD 7,eG 2],some (2,false)⟩ hS ?_
      try simp only [Act.put,sB,sC,sD]
      refine tkH 9 ⟨some 26,.load 3 (.tmp 25),3,"simplex.go:102",#[eD 8,eG 2],some (2,false)⟩ hS ?_
      try simp only [Act.put,sB,sC,sD]
      refine tkH 10 ⟨some 27,.load 101 (.tmp 1),101,"simplex.go:102",#[eG 2],some (2,false)⟩ hS ?_
      try simp only [Act.put,sB,sC,sD]
      refine tkH 11 ⟨some 28,.nilCheck (.tmp 27),0,"simplex.go:102",#[eD 10,eG 2],some (2,false)⟩ hS ?_
      try simp only [Act.put,sB,sC,sD]
      refine tkH 12 ⟨some 29,.fieldAddr 108 (.tmp 28) 3,0,"simplex.go:102",#[eD 11,eG 2],some (2,false)⟩ hS ?_
      try simp only [Act.put,sB,sC,sD]
      refine tkH 13 ⟨some 30,.load 26 (.tmp 29),26,"simplex.go:102",#[eD 12,eG 2],some (2,false)⟩ hS ?_
      try simp only [Act.put,sB,sC,sD]
      refine tkH 14 ⟨some 31,.move (.tmp 5),3,"simplex.go:102",#[eG 2],some (2,false)⟩ hS ?_
      try simp only [Act.put,sB,sC,sD]
      refine tkH 15 ⟨some 32,.indexAddr 26 (.tmp 30) (.tmp 31),0,"simplex.go:102",#[eD 13,eD 14,eG 2],some (2,false)⟩ hS ?_
      try simp only [Act.put,sB,sC,sD]
      refine tkH 16 ⟨some 33,.load 3 (.tmp 32),3,"simplex.go:102",#[eD 15,eG 2],some (2,false)⟩ hS ?_
      try simp only [Act.put,sB,sC,sD]
      refine tkH 17 ⟨some 34,.binOp .lss 3 (.tmp 26) (.tmp 33) 3,4,"simplex.go:102",#[eD 9,eD 16,eG 2],some (2,false)⟩ hS ?_
      try simp only [Act.put,sB,sC,sD]
      refine tkH 18 ⟨some 35,.pick (.tmp 19) (.const (.bool true)) (.tmp 34),4,"simplex.go:102",#[eD 2,eD 17],none⟩ hS ?_
      try simp only [Act.put,sB,sC,sD]
      refine tkH 19 ⟨some 36,.move (.tmp 35),4,"simplex.go:102",#[eD 18,eC 2],none⟩ hS ?_
      try simp only [Act.put,sB,sC,sD]
      refine tkH 20 ⟨some 37,.move (.tmp 4),122,"simplex.go:102",#[eG 19],some (19,true)⟩ hS ?_
      try simp only [Act.put,sB,sC,sD]
      refine tkH 21 ⟨some 38,.move (.tmp 7),3,"simplex.go:102",#[eG 19],some (19,true)⟩ hS ?_
      try simp only [Act.put,sB,sC,sD]
      refine wpAnyH_ready (rs:=[22]) (by kernel_rfl) (by simp) ?_
      refine AllReadyH.cons (o:=⟨some 39,.call { callee:=.value (.tmp 37),args:=#[.tmp 38],argTypes:=#[3] },4,"simplex.go:102",#[eD 20,eD 21,eC 19,eG 19],some (19,true)⟩) rfl (fun K hK=>?_) AllReadyH.nil
      go_simp
      (with_reducible refine (over1_at hf hi (hT1.below hS.2.2.2.2) hS.1 hj HO.out).mono ?_)
      rintro e wn ⟨rfl,hb1⟩
      go_wp2_with fail
      refine hK.out _ _ (keepZ4 hS hb1) (fun hS=>?_)
      clear hK K hb1
      try simp only [Act.put,sB,sC,sD]
      refine tkH 23 ⟨some 40,.pick (.tmp 36) (.tmp 39) (.const (.bool false)),4,"simplex.go:102",#[eD 19,eD 22],none⟩ hS ?_
      try simp only [Act.put,sB,sC,sD]
      refine wpAnyH_done (by kernel_rfl) ?_ _
      go_wp2_with fail
      go_roundg (gk - 1)
      case measure=>omega
      case rel=>exact ⟨j + 1,by omega,by go_num,HN,hS.2.2.2.2⟩
     ·have HN:Hid (FirstSo (j + 1) (S.Over t) t.told (.int .i64 (b:Int)) (.bool true)):=hide (.inr ⟨b,rfl,rfl,hfi.step (.inl ho)⟩)
      have HO:Hid (false = true ↔ S.Over t j):=hide ⟨fun h=>(by cases h),fun h=>absurd h ho⟩
      clear hfi ho
      go_upto_region 6 with (fail)
      refine wp_region_held_drew (S:=fun w'=>w'.cell? ⟨w.heap.size,0,none⟩ = some (.pointer (some ⟨L.p,0,none⟩)) ∧ w'.cell? ⟨L.p,3,none⟩ = some (.slice (some ⟨L.gt,0,none⟩) S.m L.kt) ∧ w'.cell? ⟨L.gt,j,none⟩ = some (.int .i64 (t.told j:Int)) ∧ w'.cell? ⟨L.gt,b,none⟩ = some (.int .i64 (t.told b:Int)) ∧ Below W.heap.size W w') (by kernel_rfl) (hS0) (fun hS=>?_)
      refine tkH 0 ⟨some 17,.move (.tmp 6),4,"simplex.go:102",#[],none⟩ hS ?_
      try simp only [Act.put,sB,sC,sD]
      refine tkH 1 ⟨some 18,.unOp .not 4 (.tmp 17),4,"simplex.go:102",#[eD 0],none⟩ hS ?_
      try simp only [Act.put,sB,sC,sD]
      refine tkH 2 ⟨some 19,.move (.tmp 18),4,"simplex.go:102",#[eD 1],none⟩ hS ?_
      try simp only [Act.put,sB,sC,sD]
      refine tkH 3 ⟨some 20,.load 101 (.tmp 1),101,"simplex.go:102",#[eG 2],some (2,false)⟩ hS ?_
      try simp only [Act.put,sB,sC,sD]
      refine tkH 4 ⟨some 21,.nilCheck (.tmp 20),0,"simplex.go:102",#[eD 3,eG 2],some (2,false)⟩ hS ?_
      try simp only [Act.put,sB,sC,sD]
      refine tkH 5 ⟨some 22,.fieldAddr 108 (.tmp 21) 3,0,"simplex.go:102",#[eD 4,eG 2],some (2,false)⟩ hS ?_
      try simp only [Act.put,sB,sC,sD]
      refine tkH 6 ⟨some 23,.load 26 (.tmp 22),26,"simplex.go:102",#[eD 5,eG 2],some (2,false)⟩ hS ?_
      try simp only [Act.put,sB,sC,sD]
      refine tkH 7 ⟨some 24,.move (.tmp 7),3,"simplex.go:102",#[eG 2],some (2,false)⟩ hS ?_
      try simp only [Act.put,sB,sC,sD]
      refine tkH 8 ⟨some 25,.indexAddr 26 (.tmp 23) (.tmp 24),0,"simplex.go:102",#[eD 6,eD 7,eG 2],some (2,false)⟩ hS ?_
      try simp only [Act.put,sB,sC,sD]
      refine tkH 9 ⟨some 26,.load 3 (.tmp 25),3,"simplex.go:102",#[eD 8,eG 2],some (2,false)⟩ hS ?_
      try simp only [Act.put,sB,sC,sD]
      refine tkH 10 ⟨some 27,.load 101 (.tmp 1),101,"simplex.go:102",#[eG 2],some (2,false)⟩ hS ?_
      try simp only [Act.put,sB,sC,sD]
      refine tkH 11 ⟨some 28,.nilCheck (.tmp 27),0,"simplex.go:102",#[eD 10,eG 2],some (2,false)⟩ hS ?_
      try simp only [Act.put,sB,sC,sD]
      refine tkH 12 ⟨some 29,.fieldAddr 108 (.tmp 28) 3,0,"simplex.go:102",#[eD 11,eG 2],some (2,false)⟩ hS ?_
      try simp only [Act.put,sB,sC,sD]
      refine tkH 13 ⟨some 30,.load 26 (.tmp 29),26,"simplex.go:102",#[eD 12,eG 2],some (2,false)⟩ hS ?_
      try simp only [Act.put,sB,sC,sD]
      refine tkH 14 ⟨some 31,.move (.tmp 5),3,"simplex.go:102",#[eG 2],some (2,false)⟩ hS ?_
      try simp only [Act.put,sB,sC,sD]
      refine tkH 15 ⟨some 32,.indexAddr 26 (.tmp 30) (.tmp 31),0,"simplex.go:102",#[eD 13,eD 14,eG 2],some (2,false)⟩ hS ?_
      try simp only [Act.put,sB,sC,sD]
      refine tkH 16 ⟨some 33,.load 3 (.tmp 32),3,"simplex.go:102",#[eD 15,eG 2],some (2,false)⟩ hS ?_
      try simp only [Act.put,sB,sC,sD]
      refine tkH 17 ⟨some 34,.binOp .lss 3 (.tmp 26) (.tmp 33) 3,4,"simplex.go:102",#[eD 9,eD 16,eG 2],some (2,false)⟩ hS ?_
      try simp only [Act.put,sB,sC,sD]
      refine tkH 18 ⟨some 35,.pick (.tmp 19) (.const (.bool true)) (.tmp 34),4,"simplex.go:102",#[eD 2,eD 17],none⟩ hS ?_
      try simp only [Act.put,sB,sC,sD]
      refine tkH 19 ⟨some 36,.move (.tmp 35),4,"simplex.go:102",#[eD 18,eC 2],none⟩ hS ?_
      try simp only [Act.put,sB,sC,sD]
      refine tkH 20 ⟨some 37,.move (.tmp 4),122,"simplex.go:102",#[eG 19],some (19,true)⟩ hS ?_
      try simp only [Act.put,sB,sC,sD]
      refine tkH 21 ⟨some 38,.move (.tmp 7),3,"simplex.go:102",#[eG 19],some (19,true)⟩ hS ?_
      try simp only [Act.put,sB,sC,sD]
      refine wpAnyH_ready (rs:=[22]) (by kernel_rfl) (by simp) ?_
      refine AllReadyH.cons (o:=⟨some 39,.call { callee:=.value (.tmp 37),args:=#[.tmp 38],argTypes:=#[3] },4,"simplex.go:102",#[eD 20,eD 21,eC 19,eG 19],some (19,true)⟩) rfl (fun K hK=>?_) AllReadyH.nil
      go_simp
      (with_reducible refine (over1_at hf hi (hT1.below hS.2.2.2.2) hS.1 hj HO.out).mono ?_)
      rintro e wn ⟨rfl,hb1⟩
      go_wp2_with fail
      refine hK.out _ _ (keepZ4 hS hb1) (fun hS=>?_)
      clear hK K hb1
      try simp only [Act.put,sB,sC,sD]
      refine tkH 23 ⟨some 40,.pick (.tmp 36) (.tmp 39) (.const (.bool false)),4,"simplex.go:102",#[eD 19,eD 22],none⟩ hS ?_
      try simp only [Act.put,sB,sC,sD]
      refine wpAnyH_done (by kernel_rfl) ?_ _
      go_wp2_with fail
      go_roundg (gk - 1)
      case measure=>omega
      case rel=>exact ⟨j + 1,by omega,by go_num,HN,hS.2.2.2.2⟩
    ·have e1:decide ((t.told j:Int) < (t.told b:Int)) = false:=decide_eq_false (by omega)
     have e2:¬((t.told j:Int) < (t.told b:Int)):=by omega
     have HN:Hid (FirstSo (j + 1) (S.Over t) t.told (.int .i64 (b:Int)) (.bool true)):=hide (.inr ⟨b,rfl,rfl,hfi.step (.inr hge)⟩)
     clear hfi
     go_upto_region 6 with (fail)
     refine wp_region_held_drew (S:=fun w'=>w'.cell? ⟨w.heap.size,0,none⟩ = some (.pointer (some ⟨L.p,0,none⟩)) ∧ w'.cell? ⟨L.p,3,none⟩ = some (.slice (some ⟨L.gt,0,none⟩) S.m L.kt) ∧ w'.cell? ⟨L.gt,j,none⟩ = some (.int .i64 (t.told j:Int)) ∧ w'.cell? ⟨L.gt,b,none⟩ = some (.int .i64 (t.told b:Int)) ∧ Below W.heap.size W w') (by kernel_rfl) (hS0) (fun hS=>?_)
     refine tkH 0 ⟨some 17,.move (.tmp 6),4,"simplex.go:102",#[],none⟩ hS ?_
     try simp only [Act.put,sB,sC,sD]
     refine tkH 1 ⟨some 18,.unOp .not 4 (.tmp 17),4,"simplex.go:102",#[eD 0],none⟩ hS ?_
     try simp only [Act.put,sB,sC,sD]
     refine tkH 2 ⟨some 19,.move (.tmp 18),4,"simplex.go:102",#[eD 1],none⟩ hS ?_
     try simp only [Act.put,sB,sC,sD]
     refine tkH 3 ⟨some 20,.load 101 (.tmp 1),101,"simplex.go:102",#[eG 2],some (2,false)⟩ hS ?_
     try simp only [Act.put,sB,sC,sD]
     refine tkH 4 ⟨some 21,.nilCheck (.tmp 20),0,"simplex.go:102",#[eD 3,eG 2],some (2,false)⟩ hS ?_
     try simp only [Act.put,sB,sC,sD]
     refine tkH 5 ⟨some 22,.fieldAddr 108 (.tmp 21) 3,0,"simplex.go:102",#[eD 4,eG 2],some (2,false)⟩ hS ?_
     try simp only [Act.put,sB,sC,sD]
     refine tkH 6 ⟨some 23,.load 26 (.tmp 22),26,"simplex.go:102",#[eD 5,eG 2],some (2,false)⟩ hS ?_
     try simp only [Act.put,sB,sC,sD]
     refine tkH 7 ⟨some 24,.move (.tmp 7),3,"simplex.go:102",#[eG 2],some (2,false)⟩ hS ?_
     try simp only [Act.put,sB,sC,sD]
     refine tkH 8 ⟨some 25,.indexAddr 26 (.tmp 23) (.tmp 24),0,"simplex.go:102",#[eD 6,eD 7,eG 2],some (2,false)⟩ hS ?_
     try simp only [Act.put,sB,sC,sD]
     refine tkH 9 ⟨some 26,.load 3 (.tmp 25),3,"simplex.go:102",#[eD 8,eG 2],some (2,false)⟩ hS ?_
     try simp only [Act.put,sB,sC,sD]
     refine tkH 10 ⟨some 27,.load 101 (.tmp 1),101,"simplex.go:102",#[eG 2],some (2,false)⟩ hS ?_
     try simp only [Act.put,sB,sC,sD]
     refine tkH 11 ⟨some 28,.nilCheck (.tmp 27),0,"simplex.go:102",#[eD 10,eG 2],some (2,false)⟩ hS ?_
     try simp only [Act.put,sB,sC,sD]
     refine tkH 12 ⟨some 29,.fieldAddr 108 (.tmp 28) 3,0,"simplex.go:102",#[eD 11,eG 2],some (2,false)⟩ hS ?_
     try simp only [Act.put,sB,sC,sD]
     refine tkH 13 ⟨some 30,.load 26 (.tmp 29),26,"simplex.go:102",#[eD 12,eG 2],some (2,false)⟩ hS ?_
     try simp only [Act.put,sB,sC,sD]
     refine tkH 14 ⟨some 31,.move (.tmp 5),3,"simplex.go:102",#[eG 2],some (2,false)⟩ hS ?_
     try simp only [Act.put,sB,sC,sD]
     refine tkH 15 ⟨some 32,.indexAddr 26 (.tmp 30) (.tmp 31),0,"simplex.go:102",#[eD 13,eD 14,eG 2],some (2,false)⟩ hS ?_
     try simp only [Act.put,sB,sC,sD]
     refine tkH 16 ⟨some 33,.load 3 (.tmp 32),3,"simplex.go:102",#[eD 15,eG 2],some (2,false)⟩ hS ?_
     try simp only [Act.put,sB,sC,sD]
     refine tkH 17 ⟨some 34,.binOp .lss 3 (.tmp 26) (.tmp 33) 3,4,"simplex.go:102",#[eD 9,eD 16,eG 2],some (2,false)⟩ hS ?_
     try simp only [Act.put,sB,sC,sD]
     refine tkH 18 ⟨some 35,.pick (.tmp 19) (.const (.bool true)) (.tmp 34),4,"simplex.go:102",#[eD 2,eD 17],none⟩ hS ?_
     try simp only [Act.put,sB,sC,sD]
     refine tkH 19 ⟨some 36,.move (.tmp 35),4,"simplex.go:102",#[eD 18,eC 2],none⟩ hS ?_
     try simp only [Act.put,sB,sC,sD]
     refine wpAnyH_take (i:=20) (oi:=⟨some 37,.move (.tmp 4),122,"simplex.go:102",#[eG 19],some (19,true)⟩) (v:=undef) rfl (by kernel_rfl) (by kernel_rfl) (by kernel_rfl) (fun _ _ _ h=>h) (Or.inr ⟨by rfl,rfl⟩) hS ?_
     try simp only [Act.put,sB,sC,sD]
     refine wpAnyH_take (i:=21) (oi:=⟨some 38,.move (.tmp 7),3,"simplex.go:102",#[eG 19],some (19,true)⟩) (v:=undef) rfl (by kernel_rfl) (by kernel_rfl) (by kernel_rfl) (fun _ _ _ h=>h) (Or.inr ⟨by rfl,rfl⟩) hS ?_
     try simp only [Act.put,sB,sC,sD]
     refine wpAnyH_take (i:=22) (oi:=⟨some 39,.call { callee:=.value (.tmp 37),args:=#[.tmp 38],argTypes:=#[3] },4,"simplex.go:102",#[eD 20,eD 21,eC 19,eG 19],some (19,true)⟩) (v:=undef) rfl (by kernel_rfl) (by kernel_rfl) (by kernel_rfl) (fun _ _ _ h=>h) (Or.inr ⟨by rfl,rfl⟩) hS ?_
     try simp only [Act.put,sB,sC,sD]
     refine tkH 23 ⟨some 40,.pick (.tmp 36) (.tmp 39) (.const (.bool false)),4,"simplex.go:102",#[eD 19,eD 22],none⟩ hS ?_
     try simp only [Act.put,sB,sC,sD]
     refine wpAnyH_done (by kernel_rfl) ?_ _
     go_wp2_with fail
     go_roundg (gk - 1)
     case measure=>omega
     case rel=>exact ⟨j + 1,by omega,by go_num,HN,hS.2.2.2.2⟩
end Go.Proofs.Ytphjffbldhhdiaa
