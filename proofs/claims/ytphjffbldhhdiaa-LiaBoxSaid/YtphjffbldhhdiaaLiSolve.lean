/- lia.Solve: by its contract. -/
import Derived.Test.YtphjffbldhhdiaaLiPush
import Derived.Test.YtphjffbldhhdiaaLiBegin
import Derived.Test.YtphjffbldhhdiaaLiSolveV
import Derived.Test.YtphjffbldhhdiaaLiCheck
import Derived.Test.YtphjffbldhhdiaaLiFloors
import Derived.Test.YtphjffbldhhdiaaLiRight
import Derived.Test.YtphjffbldhhdiaaLiBlame
import Derived.Test.YtphjffbldhhdiaaLiReasons
namespace Go.Proofs.Ytphjffbldhhdiaa
open Go.RowKit

theorem LRun.snoc {S:ISys} {t:Nat → LS} {j:Nat} {st:LS} (hr:LRun S t j) (hs:LStep S (t j) st):∃ t',LRun S t' (j + 1) ∧ t' (j + 1) = st:=by
 refine ⟨fun i=>if i ≤ j then t i else st,⟨?_,fun i hi=>?_⟩,?_⟩
 ·show (if 0 ≤ j then t 0 else st) = _
  rw [if_pos (Nat.zero_le _)]
  exact hr.1
 ·show LStep S (if i ≤ j then t i else st) (if i + 1 ≤ j then t (i + 1) else st)
  rw [if_pos (by omega)]
  by_cases h:i + 1 ≤ j
  ·rw [if_pos h]
   exact hr.2 i (by omega)
  ·rw [if_neg h]
   obtain rfl:i = j:=by omega
   exact hs
 ·show (if j + 1 ≤ j then _ else st) = st
  rw [if_neg (by omega)]
def LAns (w w':World) (S:ISys) (fuel:Int) (v:Value):Prop:=∃ (t:Nat → LS) (j:Nat),LRun S t j ∧
  ((∃ z g,LFin S (t j) (.sat z) ∧ (j:Int) + 1 ≤ fuel ∧ w.heap.size ≤ g ∧ v = .agg #[.int .i64 1,.slice (some ⟨g,0,none⟩) S.n S.n,.slice none 0 0,.int .i64 ((j:Int) + 1)] ∧ ∀ c,c < S.n → IAt w' g (c * 2) (z c)) ∨
   (∃ nd u,LFin S (t j) (.unsat nd) ∧ (j:Int) + 1 ≤ fuel ∧ OwnE w' w.heap.size u (reasL S.m nd) ∧ v = .agg #[.int .i64 2,.slice none 0 0,u,.int .i64 ((j:Int) + 1)]) ∨
   ((j:Int) = max fuel 0 ∧ v = .agg #[.int .i64 0,.slice none 0 0,.slice none 0 0,.int .i64 (j:Int)]))
def zeroA:Value:=.agg #[.int .i64 0,.slice none 0 0,.slice none 0 0,.int .i64 0]
def LSolvePost (w:World) (U:Int) (rs:List LRow) (fuel:Int) (e:Ending) (w':World):Prop:=
 Below w.heap.size w w' ∧ ((rightI U rs = false ∧ e = .returned (.tuple #[zeroA,.int .i64 1])) ∨
  (rightI U rs = true ∧ ∃ v,e = .returned (.tuple #[v,.int .i64 0]) ∧ LAns w w' (isysOf U.toNat rs) fuel v))
theorem iat_set4 {w:World} {g o N:Nat} {z:Int} {t:TypeId} {cs:Array Value} (h:IAt w g o z) (hB:Blk w N t cs) (hc:∀ u ∈ cs,NoU u) (hne:N ≠ g) {vs:List Value} (hv:∀ u ∈ vs,NoU u):IAt (putL N w 0 vs) g o z:=h.putL ⟨cs,hB,rfl,hc⟩ hv (.inl (fun e=>hne e.symm))
theorem owne_put {w:World} {N g:Nat} {u:Value} {ds:List Nat} (h:OwnE w N u ds) (hg:g < N) {o:Nat} {vs:List Value}:OwnE (putL g w o vs) N u ds:=own_stays h (fun b hb=>heap_putL (fun e=>by have:=(h.lt b hb).1; omega))
theorem owne_le {w:World} {N M:Nat} {u:Value} {ds:List Nat} (h:OwnE w M u ds) (hN:N ≤ M):OwnE w N u ds:=by
 obtain ⟨h1,h2⟩:=h
 refine ⟨h1,?_⟩
 rcases h2 with h2 | ⟨g,cap,cur,e,hg,h3⟩
 ·exact .inl h2
 ·exact .inr ⟨g,cap,cur,e,Nat.le_trans hN hg,h3⟩
theorem ans_calm {x y:Int} {a b:Option Addr} {i j k l:Nat}:∀ u ∈ [Value.int .i64 x,.slice a i j,.slice b k l,.int .i64 y],NoU u:=fun u hu=>by
 simp only [List.mem_cons,List.not_mem_nil,or_false] at hu
 rcases hu with rfl | rfl | rfl | rfl
 ·exact NoU.i64 _
 ·exact NoU.slice _ _ _
 ·exact NoU.slice _ _ _
 ·exact NoU.i64 _
theorem infoFk:(Try.prog.info? 84).map (fun i=>(i.zero,i.size,i.bytes)) = some (some (.agg #[.int .i64 0,.bool false,.slice none 0 0,.bool false,.bool false,.bool false,.slice none 0 0]),7,88):=by kernel_rfl
theorem fork7_calm (v:Int) (n u ok m:Bool) (a b:Option Addr) (l c i j:Nat):∀ x ∈ [Value.int .i64 v,.bool n,.slice a l c,.bool u,.bool ok,.bool m,.slice b i j],NoU x:=fun x hx=>by
 simp only [List.mem_cons,List.not_mem_nil,or_false] at hx
 rcases hx with rfl | rfl | rfl | rfl | rfl | rfl | rfl
 ·exact NoU.i64 _
 ·exact NoU.bool _
 ·exact NoU.slice _ _ _
 ·exact NoU.bool _
 ·exact NoU.bool _
 ·exact NoU.bool _
 ·exact NoU.slice _ _ _
theorem zeroFk_calm:∀ u ∈ (Value.agg #[.int .i64 0,.bool false,.slice none 0 0,.bool false,.bool false,.bool false,.slice none 0 0]).cells,NoU u:=fun u hu=>by
 have h:u ∈ [Value.int .i64 0,.bool false,.slice none 0 0,.bool false,.bool false,.bool false,.slice none 0 0]:=by simpa [Value.cells] using hu
 exact fork7_calm 0 false false false false none none 0 0 0 0 u h
theorem news_seven (w:World) (x y z u v p q:Value) (t:TypeId):∀ j a,[x,y,z,u,v,p,q][j]? = some a → (w.alloc (.cells #[x,y,z,u,v,p,q] t)).cell? ((⟨w.heap.size,0,none⟩:Addr).add j) = some a:=World.news_of_block (heap_alloc_new w _)
set_option maxRecDepth 100000 in
set_option maxHeartbeats 12800000 in
theorem lsolve_any (U:Int) (a:Option Addr) (cap:Nat) (rs:List LRow) (fuel:Int) (w:World) (hx:IRowsAt w a rs) (hl:rs.length ≤ 40) (hxl:∀ r ∈ rs,r.xs.length ≤ 1000000) (hf:rightI U rs = true → LFair (isysOf U.toNat rs)) (hfu:fuel ≤ 10000) :
  Calls Try.prog 10 #[.int .i64 U,.slice a rs.length cap,.int .i64 fuel] w (LSolvePost w U rs fuel):=by
 generalize hP:LSolvePost w U rs fuel = Post
 have HP:=hide hP
 clear hP
 have HX:=hide hx
 have HF:=hide hf
 have HL:=hide hxl
 clear hx hf hxl
 obtain ⟨N,hN⟩:∃ N,w.heap.size = N:=⟨_,rfl⟩
 obtain ⟨W,hW⟩:∃ W,w.alloc (.cells #[.int .i64 0,.slice none 0 0,.slice none 0 0,.int .i64 0] 28) = W:=⟨_,rfl⟩
 have b0:Blk W w.heap.size 28 #[.int .i64 0,.slice none 0 0,.slice none 0 0,.int .i64 0]:=by rw [← hW]; exact Blk.new w _ _
 have sb:Below w.heap.size w W:=by rw [← hW]; exact (Below.refl w.heap.size w).alloc (Nat.le_refl _) _
 rw [hN] at b0 sb
 have HW:=hide hW
 have HN:=hide hN
 have hbad:∀ w':World,Below N w w' → rightI U rs = false → Post (.returned (.tuple #[.agg #[.int .i64 0,.slice none 0 0,.slice none 0 0,.int .i64 0],.int .i64 1])) w':=fun w' hb h=>by
  rw [← HP.out]
  exact ⟨by rw [HN.out]; exact hb,.inl ⟨h,rfl⟩⟩
 have HB:=hide hbad
 clear hW hN hbad
 rcases Int.lt_or_le U 0 with hU | hU
 ·have HR:Hid (rightI U rs = false):=hide (by unfold rightI; rw [decide_eq_false (by omega)]; rfl)
  have e1:decide (U < 0) = true:=decide_eq_true hU
  go_enter Try.func10,Try.ntmps10
  go_upto_region 1 with (fail)
  rw [HW.out,HN.out]
  clear HW
  obtain ⟨z0,z1,z2,z3,zf⟩:=b0.c4
  go_wp2_with fail
  refine bodyPost_ret (v:=.tuple #[.agg #[.int .i64 0,.slice none 0 0,.slice none 0 0,.int .i64 0],.int .i64 1]) (by simp [results,Try.results10,go_sem,z0,z1,z2,z3]) rfl ?_
  exact HB.out _ ((((sb.setCell (Nat.le_refl _) _).setCell (Nat.le_refl _) _).setCell (Nat.le_refl _) _).setCell (Nat.le_refl _) _) HR.out
 ·rcases Int.lt_or_le 1000 U with hU2 | hU2
  ·have HR:Hid (rightI U rs = false):=hide (by unfold rightI; rw [decide_eq_true hU,decide_eq_false (by omega)]; rfl)
   have e1:decide (U < 0) = false:=decide_eq_false (by omega)
   have e2:decide (1000 < U) = true:=decide_eq_true hU2
   have e3:¬U < 0:=by omega
   go_enter Try.func10,Try.ntmps10
   go_upto_region 1 with (fail)
   rw [HW.out,HN.out]
   clear HW
   obtain ⟨z0,z1,z2,z3,zf⟩:=b0.c4
   go_wp2_with fail
   refine bodyPost_ret (v:=.tuple #[.agg #[.int .i64 0,.slice none 0 0,.slice none 0 0,.int .i64 0],.int .i64 1]) (by simp [results,Try.results10,go_sem,z0,z1,z2,z3]) rfl ?_
   exact HB.out _ ((((sb.setCell (Nat.le_refl _) _).setCell (Nat.le_refl _) _).setCell (Nat.le_refl _) _).setCell (Nat.le_refl _) _) HR.out
  ·obtain ⟨n,rfl⟩:∃ n:Nat,U = (n:Int):=⟨U.toNat,by omega⟩
   have hn:n ≤ 1000:=by omega
   have e1:decide ((n:Int) < 0) = false:=decide_eq_false (by omega)
   have e2:decide (1000 < (n:Int)) = false:=decide_eq_false (by omega)
   have e3:¬(n:Int) < 0:=by omega
   have e4:¬1000 < (n:Int):=by omega
   go_enter Try.func10,Try.ntmps10
   go_upto_region 1 with (fail)
   rw [HW.out,HN.out]
   clear HW
   go_wp2_with fail
   go_loopg [28] rs.length (fun k v28 wr=>∃ j:Nat,j + k = rs.length ∧ v28 = .int .i64 (j:Int) ∧ Below W.heap.size W wr ∧ Hid (∀ i (h:i < rs.length),i < j → (rs[i]).right (n:Int) = true))
   case atStart=>exact ⟨0,by omega,rfl,Below.refl _ _,hide (fun i _ h=>absurd h (Nat.not_lt_zero _))⟩
   case round=>
    obtain ⟨j,hjk,rfl,hB,HJ⟩:=hrel
    have b1:=b0.below hB b0.lt
    have sb1:Below N w wr:=sb.trans (hB.mono (Nat.le_of_lt b0.lt))
    rcases Nat.eq_zero_or_pos gk with h0 | h0
    ·subst h0
     obtain hj:j = rs.length:=by omega
     subst hj
     have HR:Hid (rightI n rs = true):=hide (iright_true (by omega) (by omega) (fun i hi=>HJ.out i hi hi))
     have hf:=HF.out HR.out
     obtain ⟨S,hS⟩:∃ S,isysOf n rs = S:=⟨_,rfl⟩
     have hSn:S.n = n:=by rw [← hS]; rfl
     have hSm:S.m = rs.length:=by rw [← hS]; rfl
     have hTo:(n:Int).toNat = n:=by omega
     rw [hTo,hS] at hf
     have hlay:∃ b o,(0 < S.m → a = some ⟨b,o,none⟩) ∧ IRowsV wr b o S:=by
      rcases Nat.eq_zero_or_pos S.m with h0 | h0
      ·exact ⟨0,0,fun h=>by omega,fun i hi=>by omega⟩
      ·rw [hSm] at h0
       obtain ⟨b,o,e,h⟩:=(HX.out.below sb1 (Nat.le_of_eq HN.out)).val HR.out h0
       exact ⟨b,o,fun _=>e,by rw [← hS]; exact h⟩
     obtain ⟨b,o,ha,hRV⟩:=hlay
     have HOK:Hid (∀ (w':World) (v:Value),Below N w w' → LAns w w' S fuel v → Post (.returned (.tuple #[v,.int .i64 0])) w'):=hide (fun w' v hb hv=>by
      rw [← HP.out]
      exact ⟨by rw [HN.out]; exact hb,.inr ⟨HR.out,v,rfl,by rw [hTo,hS]; exact hv⟩⟩)
     subst hSn
     have hn4:=hf.n
     have hm4:=hf.m
     have HFS:=hide hf
     have HBG:Hid (Calls Try.prog 26 #[.int .i64 (S.n:Int),.slice a rs.length cap] wr (BeginPost wr S)):=hide (by
      rw [← hSm]
      exact begin_any wr (by omega) (by omega) ha hRV (fun i c hi hc=>Nat.le_trans (hf.sz.A i c hi hc) (by decide)) (fun i hi=>Nat.le_trans (hf.sz.most i hi) (by decide)))
     obtain ⟨F,hF⟩:∃ F:Nat,max fuel 0 = (F:Int):=⟨(max fuel 0).toNat,by omega⟩
     have hF4:F ≤ 10000:=by omega
     have hFF:∀ i:Nat,i < F → (i:Int) + 1 ≤ fuel:=fun i hi=>by omega
     have HFF:=hide hFF
     have HFU:=hide hF
     replace hSm:=hide hSm
     replace hTo:=hide hTo
     have HSS:=hide hS
     clear hS ha hRV HJ hjk hB HF hf hFF
     go_wp2_with fail
     refine HBG.out.mono ?_
     rintro e w1 ⟨hb1,L,rfl,hL1⟩
     clear HBG
     have hNB:N < wr.heap.size:=b1.lt
     have b2:=b1.below hb1 b1.lt
     have sb2:Below N w w1:=sb1.trans (hb1.mono (Nat.le_of_lt b1.lt))
     obtain ⟨B,hBB⟩:∃ B,wr.heap.size = B:=⟨_,rfl⟩
     have hBw:B ≤ w1.heap.size:=by rw [← hBB]; exact hb1.size
     rw [hBB] at hNB hL1
     have HL1:=hide hL1
     clear hb1 hL1 hBB b1 sb1
     go_wp2_with fail
     clear hF
     go_loopg [12] F (fun k v12 wr=>∃ (j:Nat) (t:Nat → LS) (vk:Value),j + k = F ∧ v12 = .int .i64 (j:Int) ∧ Below B w1 wr ∧ Hid (LRun S t j) ∧ Hid (LiW B wr S (t j) { L with vk:=vk }))
     case atStart=>exact ⟨0,fun _=>LS.first,L.vk,by omega,rfl,Below.refl _ _,hide ⟨rfl,fun i hi=>absurd hi (Nat.not_lt_zero _)⟩,HL1⟩
     case round=>
      clear HL1
      obtain ⟨j,t,vk,hjk,rfl,hB,HRN,HLW⟩:=hrel
      have b3:=b2.below hB hNB
      have sb3:Below N w wr:=sb2.trans (hB.mono (Nat.le_of_lt hNB))
      have hBr:B ≤ wr.heap.size:=Nat.le_trans hBw hB.size
      rcases Nat.eq_zero_or_pos gk with h0 | h0
      ·subst h0
       obtain rfl:j = F:=by omega
       obtain ⟨z0,z1,z2,z3,zf⟩:=b3.c4
       have HA:Hid (∀ w',LAns w w' S fuel (.agg #[.int .i64 0,.slice none 0 0,.slice none 0 0,.int .i64 (j:Int)])):=hide (fun w'=>⟨t,j,HRN.out,.inr (.inr ⟨HFU.out.symm,rfl⟩)⟩)
       clear HRN HLW
       go_wp2_with fail
       refine bodyPost_ret (v:=.tuple #[.agg #[.int .i64 0,.slice none 0 0,.slice none 0 0,.int .i64 (j:Int)],.int .i64 0]) (by simp [results,Try.results10,go_sem,z0,z1,z2,z3]) rfl ?_
       exact HOK.out _ _ ((((sb3.setCell (Nat.le_refl _) _).setCell (Nat.le_refl _) _).setCell (Nat.le_refl _) _).setCell (Nat.le_refl _) _) (HA.out _)
      ·have hj:j < F:=by omega
       have ej:(j:Int) < (F:Int):=by omega
       have ew:IntKind.i64.wrap ((j:Int) + 1) = (j:Int) + 1:=IntWalk.i64_in _ ⟨by omega,by omega⟩
       obtain ⟨hsz,hisz⟩:=HRN.out.fine HFS.out (by omega)
       have HSZ:=hide hsz
       have HISZ:=hide hisz
       have HALL:Hid (Calls Try.prog 28 #[.pointer (some ⟨L.p,0,none⟩)] wr (AllPost wr S (t j))):=hide (all_any (L:={ L with vk:=vk }) wr HLW.out hsz.sm.1 (by omega) (by omega))
       clear hsz hisz
       go_upto_region 15 with (fail)
       go_wp2_with (go_at_call 28; with_reducible refine HALL.out.mono ?_)
       rintro e w2 ⟨hb2,va,rfl,hC⟩
       obtain ⟨Y,hY⟩:∃ Y,S.all (bRows (t j).floor (t j).top S.n) = Y:=⟨_,rfl⟩
       have hYn:Y.n = S.n:=by rw [← hY]; rfl
       have hYm:S.m ≤ Y.m ∧ Y.m ≤ S.m + 8:=by
        have:=bRows_len (t j).floor (t j).top S.n
        rw [← hY]
        show S.m ≤ S.m + _ ∧ S.m + (bRows (t j).floor (t j).top S.n).length ≤ _
        omega
       have hYs:(t j).sys S = Y:=hY
       have hfy:Fair Y 1 30000000:=by rw [← hYs]; exact HSZ.out.fair HFS.out HISZ.out
       have hz0:=(all_zero (S:=S) (l:=bRows (t j).floor (t j).top S.n)).1
       have hz1:=(all_zero (S:=S) (l:=bRows (t j).floor (t j).top S.n)).2
       rw [hY] at hC hz0 hz1
       obtain ⟨aa,ak,rfl,ab,ao,haa,hRV⟩:=hC.form
       have HSV:Hid (Calls Try.prog 27 #[.int .i64 (S.n:Int),.slice aa Y.m ak] w2 fun e w'=>Below w2.heap.size w2 w' ∧ ∃ v,e = .returned (.tuple #[v,.int .i64 0]) ∧ AnsV w2 w' Y v):=hide (by
        have h:=solve_v (cap:=ak) w2 hfy haa hRV hz0 hz1
        rw [hYn] at h
        exact h)
       have HFY:=hide hfy
       have HYS:=hide hYs
       have HYN:=hide hYn
       have hY8:=hYm.2
       have hY0:=hYm.1
       clear HALL hC hz0 hz1 hY hYs hfy hRV haa hYm
       go_wp2_with (go_at_call 27; with_reducible refine HSV.out.mono ?_)
       rintro e w3 ⟨hb3,v3,rfl,u,hu,hcase⟩
       clear HSV
       have hb23:Below wr.heap.size wr w3:=hb2.trans (hb3.mono hb2.size)
       have b4:=b3.below hb23 b3.lt
       have sb4:Below N w w3:=sb3.trans (hb23.mono (Nat.le_of_lt b3.lt))
       have hB3:Below B w1 w3:=hB.trans (hb23.mono hBr)
       have HLW3:Hid (LiW B w3 S (t j) { L with vk:=vk }):=hide (HLW.out.below hb23)
       have hB3s:B ≤ w3.heap.size:=Nat.le_trans hBr hb23.size
       have hLn:L.gn < wr.heap.size:=HLW.out.nb.lt
       rcases hcase with ⟨hno,g,hg,rfl,hat⟩ | ⟨l0,hfi,hfr,g,hg,rfl,hat⟩
       ·have HFO:Hid (Found' ((t j).sys S) u.val):=hide (by rw [HYS.out]; exact ⟨u,hu,hno,rfl⟩)
        have HQZ:Hid (∀ c,c < S.n → Qz (u.val c)):=hide (fun c hc=>(HSZ.out.qz HFS.out HISZ.out HFO.out hc))
        rw [HYN.out] at hat ⊢
        obtain ⟨W4,hW4⟩:∃ W4,w3.alloc (.cells #[.slice (some ⟨g,0,none⟩) S.n S.n,.slice none 0 0] 63) = W4:=⟨_,rfl⟩
        obtain ⟨g13,hg13⟩:∃ g,w3.heap.size = g:=⟨_,rfl⟩
        have b13:Blk W4 g13 63 #[.slice (some ⟨g,0,none⟩) S.n S.n,.slice none 0 0]:=by rw [← hW4,← hg13]; exact Blk.new _ _ _
        have hb4:Below w3.heap.size w3 W4:=by rw [← hW4]; exact (Below.refl _ _).alloc (Nat.le_refl _) _
        have b5:=b4.below hb4 b4.lt
        have sb5:Below N w W4:=sb4.trans (hb4.mono (Nat.le_of_lt b4.lt))
        have hB5:Below B w1 W4:=hB3.trans (hb4.mono hB3s)
        have HLW5:Hid (LiW B W4 S (t j) { L with vk:=vk }):=hide (HLW3.out.below hb4)
        have HAT:Hid (∀ i,i < S.n → FAt W4 g (i * 4) (u.val i)):=hide (fun i hi=>(hat i hi).below hb4 (Nat.le_refl _))
        have hB5s:B ≤ W4.heap.size:=Nat.le_trans hB3s hb4.size
        have HW4:=hide hW4
        have HG13:=hide hg13
        clear hW4 hg13 hat HLW HLW3 hb2 hb3 hb23 hb4 hno hu b3 sb3 hB b4 sb4 hB3
        go_upto_region 16 with (fail)
        rw [HW4.out,HG13.out]
        clear HW4 HG13
        obtain ⟨y0,y1,-⟩:=b13.c2
        go_wp2_with fail
        refine (first_any W4 HAT.out HQZ.out (by omega)).mono ?_
        rintro e w6 ⟨hb6,⟨v,hv,hd,hmin,rfl⟩ | ⟨hden,rfl⟩⟩
        ·have ev0:¬(v:Int) < 0:=by omega
         have evn:(v:Int) < (S.n:Int):=by omega
         have b6:=b5.below hb6 b5.lt
         have sb6:Below N w w6:=sb5.trans (hb6.mono (Nat.le_of_lt b5.lt))
         have hB6:Below B w1 w6:=hB5.trans (hb6.mono hB5s)
         have hB6s:B ≤ w6.heap.size:=Nat.le_trans hB5s hb6.size
         have HLW6:Hid (LiW B w6 S (t j) { L with vk:=vk }):=hide (HLW5.out.below hb6)
         replace y0:=cellB y0 hb6 (Nat.le_refl _)
         obtain ⟨xn,xa,xl,xk,xm,xb,xi,xj,x0,x1,x2,x3,hq⟩:=(HAT.out v hv).below hb6 (Nat.le_refl _)
         have hqz:=HQZ.out v hv
         have HST:Hid (∀ st',st' = (⟨(t j).floor,put (t j).top v (some (u.val v).floor),⟨v,(u.val v).floor,false,(t j).top v⟩ :: (t j).forks,(t j).need⟩:LS) → ∃ t',LRun S t' (j + 1) ∧ t' (j + 1) = st'):=hide (fun st' e=>HRN.out.snoc (.inr ⟨_,v,HFO.out,hv,hd,hmin,e⟩))
         clear y1 hd hmin HFO HQZ hb6 HLW5 HAT b5 sb5 hB5
         go_wp2_with fail
         refine (FFloor_any w6 hq hqz).mono ?_
         rintro e w7 ⟨rI,rfl,hI,hb7⟩
         obtain ⟨fn,fa,fll,fk,rfl⟩:=hI.form
         obtain ⟨W8,hW8⟩:∃ W8,w7.alloc (.cells #[.bool fn,.slice fa fll fk] 38) = W8:=⟨_,rfl⟩
         obtain ⟨g17,hg17⟩:∃ g,w7.heap.size = g:=⟨_,rfl⟩
         have b17:Blk W8 g17 38 #[.bool fn,.slice fa fll fk]:=by rw [← hW8,← hg17]; exact Blk.new _ _ _
         have hb8:Below w7.heap.size w7 W8:=by rw [← hW8]; exact (Below.refl _ _).alloc (Nat.le_refl _) _
         have hb78:Below w6.heap.size w6 W8:=hb7.trans (hb8.mono hb7.size)
         have sb8:Below N w W8:=sb6.trans (hb78.mono (Nat.le_of_lt b6.lt))
         have hB8:Below B w1 W8:=hB6.trans (hb78.mono hB6s)
         have hB8s:B ≤ W8.heap.size:=Nat.le_trans hB6s hb78.size
         have HLW8:Hid (LiW B W8 S (t j) { L with vk:=vk }):=hide (HLW6.out.below hb78)
         have HI8:Hid (IntV W8 (.agg #[.bool fn,.slice fa fll fk]) (u.val v).floor):=hide (hI.below hb8 (Nat.le_refl _))
         have hLp17:L.p < g17:=by have h1:=HLW6.out.blk.lt; have h2:=hb7.size; have h3:L.p < w6.heap.size:=h1; omega
         have HVK:Hid (∀ g,vk.ownBlock = some g → B ≤ g ∧ g < g17):=hide (fun g e=>by
          have h1:=HLW6.out.fk.lt g e
          have h2:=hb7.size
          omega)
         have HW8:=hide hW8
         have HG17:=hide hg17
         clear hW8 hg17 hI hb7 hb8 hb78 x0 x1 x2 x3 hq HLW6 sb6 hB6 b6
         go_upto_region 25 with (fail)
         rw [HW8.out,HG17.out]
         clear HW8 HG17 y0
         obtain ⟨y0,y1,-⟩:=b17.c2
         have p3:W8.cell? ⟨L.p,3,none⟩ = some (.slice (some ⟨L.gt,0,none⟩) S.n S.n):=HLW8.out.blk.cell 3
         have p4:W8.cell? ⟨L.p,4,none⟩ = some vk:=HLW8.out.blk.cell 4
         obtain ⟨tok,tz,t0,⟨tm,ta,tl,tc,t1,t2,htz⟩,htop⟩:=HLW8.out.tp v hv
         have HTZ:=hide htz
         have HTOP:Hid ((t j).top v = if tok = true then some tz else none):=hide htop
         obtain ⟨xs,hx1,hx2,hx3⟩:=HLW8.out.fk
         have HX1:Hid (W8.ownsRow B 84 7 vk (t j).forks.length xs):=hide hx1
         have HX2:=hide hx2
         have HX3:=hide hx3
         have hfkl:=HRN.out.forks j (Nat.le_refl _)
         obtain ⟨fl0,hfl0⟩:∃ k,(t j).forks.length = k:=⟨_,rfl⟩
         have HFL0:=hide hfl0
         have HX1':Hid (W8.ownsRow B 84 7 vk fl0 xs):=hide (by rw [← hfl0]; exact hx1)
         rw [hfl0] at hfkl
         obtain ⟨i0,hi0,hz0,hz1,hz2⟩:=info_parts infoFk
         have HZU:=hide zeroFk_calm
         clear htz htop hx1 hx2 hx3 hfl0
         have HLPL:Hid (L.p < g17):=hide (by have h1:=hLp17; exact h1)
         have hT:Below W8.heap.size W8 W8.drew:=(Below.refl _ _).drew
         refine wp_region_till (S:=fun w'=>w'.cell? ⟨L.p,4,none⟩ = some (vk) ∧ w'.cell? ⟨L.p,3,none⟩ = some (.slice (some ⟨L.gt,0,none⟩) S.n S.n) ∧ w'.cell? ⟨g17,0,none⟩ = some (.bool fn) ∧ w'.cell? ⟨g17,1,none⟩ = some (.slice fa fll fk) ∧ w'.cell? ⟨L.gt,v * 3,none⟩ = some (.bool tok) ∧ w'.cell? ⟨L.gt,v * 3 + 1,none⟩ = some (.bool tm) ∧ w'.cell? ⟨L.gt,v * 3 + 1 + 1,none⟩ = some (.slice ta tl tc) ∧ Below B w1 w') (fun i=>decide (i < 17)) (by kernel_rfl) (⟨p4,p3,y0,y1,t0,t1,t2,hB8.drew⟩) (fun hS=>?_)
         obtain ⟨WD,hWD⟩:∃ WD,W8.drew = WD:=⟨_,rfl⟩
         rw [hWD] at hS ⊢
         (try rw [hWD] at hT)
         clear hWD
         refine tkT 0 ⟨some 103,.move (.tmp 11),59,"lia.go:85",#[],none⟩ hS ?_
         try simp only [Act.put,sB,sC,sD]
         refine tkT 1 ⟨some 104,.move (.tmp 11),59,"lia.go:85",#[],none⟩ hS ?_
         try simp only [Act.put,sB,sC,sD]
         refine tkT 2 ⟨some 105,.nilCheck (.tmp 104),0,"lia.go:85",#[eD 1],none⟩ hS ?_
         try simp only [Act.put,sB,sC,sD]
         refine tkT 3 ⟨some 106,.fieldAddr 80 (.tmp 105) 4,0,"lia.go:85",#[eD 2],none⟩ hS ?_
         try simp only [Act.put,sB,sC,sD]
         refine tkT 4 ⟨some 107,.load 77 (.tmp 106),77,"lia.go:85",#[eD 3],none⟩ hS ?_
         try simp only [Act.put,sB,sC,sD]
         refine tkT 5 ⟨some 108,.move (.tmp 16),3,"lia.go:85",#[],none⟩ hS ?_
         try simp only [Act.put,sB,sC,sD]
         refine tkT 6 ⟨some 109,.load 38 (.tmp 17),38,"lia.go:85",#[],none⟩ hS ?_
         try simp only [Act.put,sB,sC,sD]
         refine tkT 7 ⟨some 110,.move (.tmp 11),59,"lia.go:85",#[],none⟩ hS ?_
         try simp only [Act.put,sB,sC,sD]
         refine tkT 8 ⟨some 111,.nilCheck (.tmp 110),0,"lia.go:85",#[eD 7],none⟩ hS ?_
         try simp only [Act.put,sB,sC,sD]
         refine tkT 9 ⟨some 112,.fieldAddr 80 (.tmp 111) 3,0,"lia.go:85",#[eD 8],none⟩ hS ?_
         try simp only [Act.put,sB,sC,sD]
         refine tkT 10 ⟨some 113,.load 78 (.tmp 112),78,"lia.go:85",#[eD 9],none⟩ hS ?_
         try simp only [Act.put,sB,sC,sD]
         refine tkT 11 ⟨some 114,.move (.tmp 16),3,"lia.go:85",#[],none⟩ hS ?_
         try simp only [Act.put,sB,sC,sD]
         refine tkT 12 ⟨some 115,.indexAddr 78 (.tmp 113) (.tmp 114),0,"lia.go:85",#[eD 10,eD 11],none⟩ hS ?_
         try simp only [Act.put,sB,sC,sD]
         refine tkT 13 ⟨some 116,.load 82 (.tmp 115),82,"lia.go:85",#[eD 12],none⟩ hS ?_
         try simp only [Act.put,sB,sC,sD]
         refine tkT 14 ⟨some 117,.build 84 #[(0,.tmp 108),(1,.tmp 109),(3,.tmp 116)],84,"lia.go:85",#[eD 5,eD 6,eD 13],none⟩ hS ?_
         try simp only [Act.put,sB,sC,sD]
         refine Till_ready (rs:=[15]) (by kernel_rfl) (by kernel_rfl) (by simp) ?_
         refine AllReadyT.cons (o:=⟨some 118,.buildSlice 77 1 #[(0,.tmp 117)],77,"lia.go:85",#[eD 14],none⟩) rfl (fun K hK=>?_) AllReadyT.nil
         obtain ⟨WA,hWA⟩:∃ WA,WD.alloc (.cells #[.int .i64 (v:Int),.bool fn,.slice fa fll fk,.bool false,.bool tok,.bool tm,.slice ta tl tc] 84) = WA:=⟨_,rfl⟩
         have hbA:Below WD.heap.size WD WA:=by rw [← hWA]; exact (Below.refl _ _).alloc (Nat.le_refl _) _
         have HNS:Hid (∀ j u,([.int .i64 (v:Int),.bool fn,.slice fa fll fk,.bool false,.bool tok,.bool tm,.slice ta tl tc]:List Value)[j]? = some u → WA.cell? ((⟨WD.heap.size,0,none⟩:Addr).add j) = some u):=hide (by rw [← hWA]; exact news_seven _ _ _ _ _ _ _ _ _)
         have HWA:=hide hWA
         have hBD:B ≤ WD.heap.size:=Nat.le_trans hB8s hT.size
         clear hWA
         go_simp
         try (rw [HWA.out])
         replace hT:=hT.trans (hbA.mono hT.size)
         refine hK.out _ _ ⟨cellK hbA hS.1,cellK hbA hS.2.1,cellK hbA hS.2.2.1,cellK hbA hS.2.2.2.1,cellK hbA hS.2.2.2.2.1,cellK hbA hS.2.2.2.2.2.1,cellK hbA hS.2.2.2.2.2.2.1,hS.2.2.2.2.2.2.2.trans (hbA.mono hBD)⟩ (fun hS=>?_)
         clear hK K HWA hbA
         try simp only [Act.put,sB,sC,sD]
         refine Till_ready (rs:=[16]) (by kernel_rfl) (by kernel_rfl) (by simp) ?_
         refine AllReadyT.cons (o:=⟨some 119,.call { callee:=.builtin .append,args:=#[.tmp 107,.tmp 118],argTypes:=#[77,77] },77,"lia.go:85",#[eD 4,eD 15],none⟩) rfl (fun K hK=>?_) AllReadyT.nil
         have hBA:Below W8.heap.size W8 WA:=hT
         have HXA:Hid (WA.ownsRow B 84 7 vk fl0 xs):=hide (own_stays HX1'.out (fun g hg=>hBA.block g (HX1'.out.lt g hg).2))
         have HXB:Hid (∀ g,vk.ownBlock = some g → Calm WA g):=hide (fun g hg=>(HX2.out g hg).below hBA (HX1'.out.lt g hg).2)
         have HXC:Hid (∀ g,vk.ownBlock = some g → ∀ i k,(t j).forks.reverse[i]? = some k → FkAt WA g (i * 7) k):=hide (fun g hg i k e=>(HX3.out g hg i k e).below hBA (Nat.le_refl _))
         have HNU:Hid (∀ u ∈ [.int .i64 (v:Int),.bool fn,.slice fa fll fk,.bool false,.bool tok,.bool tm,.slice ta tl tc],NoU u):=hide (fork7_calm _ _ _ _ _ _ _ _ _ _ _)
         have hBWA:B ≤ WA.heap.size:=Nat.le_trans hB8s hBA.size
         have HLA:Hid (LiW B WA S (t j) { L with vk:=vk }):=hide (HLW8.out.below hBA)
         have HIA:Hid (IntV WA (.agg #[.bool fn,.slice fa fll fk]) (u.val v).floor):=hide (HI8.out.below hBA (Nat.le_refl _))
         have HTA:Hid (IntV WA (.agg #[.bool tm,.slice ta tl tc]) tz):=hide (HTZ.out.below hBA (Nat.le_refl _))
         refine step_append_calm _ rfl (.tmp 107) (.tmp 118) 77 rfl B 84 i0 (.agg #[.int .i64 0,.bool false,.slice none 0 0,.bool false,.bool false,.bool false,.slice none 0 0]) 7 88 Try.underlying77 hi0 hz0 hz1 hz2 rfl (by decide) vk fl0 xs (by rfl) HXA.out ⟨WD.heap.size,0,none⟩ 1 1 [.int .i64 (v:Int),.bool fn,.slice fa fll fk,.bool false,.bool tok,.bool tm,.slice ta tl tc] (by rfl) rfl HNS.out (by simp [Value.oneCell']) (by unfold maxLen; omega) (by omega) hBWA HXB.out HNU.out HZU.out ?_
         intro v9 w9 hown hgrow hat hcalm
         obtain ⟨ya,yk,rfl⟩:=own_slice hown
         have hB90:Below B w1 w9:=(hB8.trans (hBA.mono hB8s)).grown hgrow (by have:=hBWA; omega) (fun k hk=>(HX1'.out.lt k hk).1)
         obtain ⟨W9,hW9⟩:∃ W9,w9.setCell ⟨L.p,4,none⟩ (.slice ya (fl0 + 1) yk) = W9:=⟨_,rfl⟩
         have HL9:Hid (LiW B W9 S ⟨(t j).floor,(t j).top,⟨v,(u.val v).floor,false,(t j).top v⟩ :: (t j).forks,(t j).need⟩ { L with vk:=.slice ya (fl0 + 1) yk }):=hide (by rw [← hW9]; exact HLA.out.push (k:=⟨v,(u.val v).floor,false,(t j).top v⟩) (by rw [HFL0.out]; exact HXA.out) HXB.out HXC.out (by rw [HFL0.out]; exact hown) hgrow hat hcalm HIA.out HTA.out HTOP.out)
         have hnp:some L.p ≠ vk.ownBlock:=fun e=>(HLA.out.kb L.p e.symm).1 rfl
         have hnt:some L.gt ≠ vk.ownBlock:=fun e=>(HLA.out.kb L.gt e.symm).2.2.1 rfl
         have hn17:some g17 ≠ vk.ownBlock:=fun e=>by have:=(HVK.out g17 e.symm).2; omega
         have hb9:Blk w9 L.p 80 _:=HLA.out.blk.grown hgrow hnp
         have y4:w9.cell? ⟨L.p,4,none⟩ = some vk:=hb9.cell 4
         have f4:=hb9.frozen 4
         have hC9:CB w9 L.p 80 6:=HLA.out.pcb.grown hgrow hnp
         have hp17:L.p ≠ g17:=fun e=>by have h1:=HLW8.out.blk.lt; have h2:=HLPL.out; omega
         have HI9:Hid (IntV W9 (.agg #[.bool fn,.slice fa fll fk]) (u.val v).floor):=hide (by rw [← hW9]; exact (HIA.out.grown hgrow HXB.out).setX (hC9.nodig 4) _)
         have hB9:Below B w1 W9:=by rw [← hW9]; exact hB90.setCell HLA.out.le.1 _
         have hB9s:B ≤ W9.heap.size:=by have e:=hgrow.size; rw [← hW9]; simp [World.setCell]; omega
         have q0:W9.cell? ⟨g17,0,none⟩ = some (.bool fn):=by rw [← hW9]; exact (World.cell?_setCell_other _ _ _ _ (fun e=>hp17 (congrArg Addr.block e))).trans (hgrow.cell hS.2.2.1 hn17)
         have q1:W9.cell? ⟨g17,1,none⟩ = some (.slice fa fll fk):=by rw [← hW9]; exact (World.cell?_setCell_other _ _ _ _ (fun e=>hp17 (congrArg Addr.block e))).trans (hgrow.cell hS.2.2.2.1 hn17)
         have q3:W9.cell? ⟨L.p,3,none⟩ = some (.slice (some ⟨L.gt,0,none⟩) S.n S.n):=HL9.out.blk.cell 3
         have HW9:=hide hW9
         have hkeep:(w9.cell? ⟨L.p,4,none⟩ = some vk ∧ w9.cell? ⟨L.p,3,none⟩ = some (.slice (some ⟨L.gt,0,none⟩) S.n S.n) ∧ w9.cell? ⟨g17,0,none⟩ = some (.bool fn) ∧ w9.cell? ⟨g17,1,none⟩ = some (.slice fa fll fk) ∧ w9.cell? ⟨L.gt,v * 3,none⟩ = some (.bool tok) ∧ w9.cell? ⟨L.gt,v * 3 + 1,none⟩ = some (.bool tm) ∧ w9.cell? ⟨L.gt,v * 3 + 1 + 1,none⟩ = some (.slice ta tl tc) ∧ Below B w1 w9):=⟨y4,hgrow.cell hS.2.1 hnp,hgrow.cell hS.2.2.1 hn17,hgrow.cell hS.2.2.2.1 hn17,hgrow.cell hS.2.2.2.2.1 hnt,hgrow.cell hS.2.2.2.2.2.1 hnt,hgrow.cell hS.2.2.2.2.2.2.1 hnt,hB90⟩
         clear hW9 hown hgrow hat hcalm hB90 hb9 hC9 hnp hnt hn17 HXA HXB HXC HNU HLA HIA HTA HNS HX1 HX1' HX2 HX3 HLW8 HI8 HTZ
         refine hK.out _ _ hkeep (fun hS=>?_)
         clear hK K hkeep
         try simp only [Act.put,sB,sC,sD]
         refine Till_turn (by kernel_rfl) ?_
         refine tkH 17 ⟨some 120,.nilCheck (.tmp 103),0,"lia.go:85",#[eD 0,eP 0,eP 1,eP 2,eP 3,eP 4,eP 5,eP 6,eP 7,eP 8,eP 9,eP 10,eP 11,eP 12,eP 13,eP 14,eP 15,eP 16],none⟩ trivial ?_
         try simp only [Act.put,sB,sC,sD]
         refine tkH 18 ⟨some 121,.fieldAddr 80 (.tmp 120) 4,0,"lia.go:85",#[eD 17,eP 0,eP 1,eP 2,eP 3,eP 4,eP 5,eP 6,eP 7,eP 8,eP 9,eP 10,eP 11,eP 12,eP 13,eP 14,eP 15,eP 16],none⟩ trivial ?_
         try simp only [Act.put,sB,sC,sD]
         refine wpAnyH_ready (rs:=[19]) (by kernel_rfl) (by simp) ?_
         refine AllReadyH.cons (o:=⟨none,.store 77 (.tmp 121) (.tmp 119),0,"lia.go:85",#[eD 18,eD 16,eC 16,eP 0,eP 1,eP 2,eP 3,eP 4,eP 5,eP 6,eP 7,eP 8,eP 9,eP 10,eP 11,eP 12,eP 13,eP 14,eP 15,eP 16],none⟩) rfl (fun K hK=>?_) AllReadyH.nil
         go_simp
         refine hK.out _ _ trivial (fun _=>?_)
         clear hK K y4 f4
         try simp only [Act.put,sB,sC,sD]
         refine wpAnyH_done (by kernel_rfl) ?_ _
         rw [HW9.out]
         clear HW9 hS p3 p4 t0 t1 t2 y0 y1
         go_upto_region 26 with (fail)
         refine wp_region_till (S:=fun w'=>w'.cell? ⟨L.p,3,none⟩ = some (.slice (some ⟨L.gt,0,none⟩) S.n S.n) ∧ w'.cell? ⟨g17,0,none⟩ = some (.bool fn) ∧ w'.cell? ⟨g17,1,none⟩ = some (.slice fa fll fk) ∧ Below W9.heap.size W9 w') (fun i=>decide (i < 7)) (by kernel_rfl) (⟨q3,q0,q1,(Below.refl _ _).drew⟩) (fun hS=>?_)
         obtain ⟨WD,hWD⟩:∃ WD,W9.drew = WD:=⟨_,rfl⟩
         rw [hWD] at hS ⊢
         (try rw [hWD] at hT)
         clear hWD
         refine tkT 0 ⟨some 122,.move (.tmp 11),59,"lia.go:86",#[],none⟩ hS ?_
         try simp only [Act.put,sB,sC,sD]
         refine tkT 1 ⟨some 123,.nilCheck (.tmp 122),0,"lia.go:86",#[eD 0],none⟩ hS ?_
         try simp only [Act.put,sB,sC,sD]
         refine tkT 2 ⟨some 124,.fieldAddr 80 (.tmp 123) 3,0,"lia.go:86",#[eD 1],none⟩ hS ?_
         try simp only [Act.put,sB,sC,sD]
         refine tkT 3 ⟨some 125,.load 78 (.tmp 124),78,"lia.go:86",#[eD 2],none⟩ hS ?_
         try simp only [Act.put,sB,sC,sD]
         refine tkT 4 ⟨some 126,.move (.tmp 16),3,"lia.go:86",#[],none⟩ hS ?_
         try simp only [Act.put,sB,sC,sD]
         refine tkT 5 ⟨some 127,.load 38 (.tmp 17),38,"lia.go:86",#[],none⟩ hS ?_
         try simp only [Act.put,sB,sC,sD]
         refine tkT 6 ⟨some 128,.build 82 #[(0,.const (.bool true)),(1,.tmp 127)],82,"lia.go:86",#[eD 5],none⟩ hS ?_
         try simp only [Act.put,sB,sC,sD]
         refine Till_turn (by kernel_rfl) ?_
         refine tkH 7 ⟨some 129,.indexAddr 78 (.tmp 125) (.tmp 126),0,"lia.go:86",#[eD 3,eD 4,eP 0,eP 1,eP 2,eP 3,eP 4,eP 5,eP 6],none⟩ trivial ?_
         try simp only [Act.put,sB,sC,sD]
         refine wpAnyH_ready (rs:=[8]) (by kernel_rfl) (by simp) ?_
         refine AllReadyH.cons (o:=⟨none,.store 82 (.tmp 129) (.tmp 128),0,"lia.go:86",#[eD 7,eD 6,eP 0,eP 1,eP 2,eP 3,eP 4,eP 5,eP 6],none⟩) rfl (fun K hK=>?_) AllReadyH.nil
         have hbD:Below W9.heap.size W9 WD:=hS.2.2.2
         have hLD:=HL9.out.below hbD
         obtain ⟨_,_,z0,⟨_,_,_,_,z1,z2,-⟩,-⟩:=hLD.tp v hv
         replace z0:WD.cell? ⟨L.gt,v * 3,none⟩ = some _:=z0
         replace z1:WD.cell? ⟨L.gt,v * 3 + 1,none⟩ = some _:=z1
         replace z2:WD.cell? ⟨L.gt,v * 3 + 2,none⟩ = some _:=z2
         have f0:WD.frozen? ⟨L.gt,v * 3,none⟩ = false:=hLD.tb.frozen (v * 3)
         have f1:WD.frozen? ⟨L.gt,v * 3 + 1,none⟩ = false:=hLD.tb.frozen (v * 3 + 1)
         have f2:WD.frozen? ⟨L.gt,v * 3 + 2,none⟩ = false:=hLD.tb.frozen (v * 3 + 2)
         obtain ⟨WE,hWE⟩:∃ W5,putL L.gt WD (v * 3) [.bool true,.bool fn,.slice fa fll fk] = W5:=⟨_,rfl⟩
         have HLE:Hid (LiW B WE S ⟨(t j).floor,put (t j).top v (some (u.val v).floor),⟨v,(u.val v).floor,false,(t j).top v⟩ :: (t j).forks,(t j).need⟩ { L with vk:=.slice ya (fl0 + 1) yk }):=hide (by rw [← hWE]; have hx:=hLD.setTop (ok:=true) hv (HI9.out.below hbD (Nat.le_refl _)); rw [if_pos rfl] at hx; exact hx)
         have hBE:Below B w1 WE:=by rw [← hWE]; exact below_putL (hB9.trans (hbD.mono hB9s)) hLD.le.2.2.1
         simp only [putL] at hWE
         have HWE:=hide hWE
         clear hWE hLD hbD HL9
         go_simp
         refine hK.out _ _ trivial (fun _=>?_)
         clear hK K z0 z1 z2 f0 f1 f2
         try simp only [Act.put,sB,sC,sD]
         refine wpAnyH_done (by kernel_rfl) ?_ _
         rw [HWE.out]
         clear HWE hS
         obtain ⟨t',hrun,ht'⟩:=HST.out _ rfl
         have HRUN:=hide hrun
         have HLWF:Hid (LiW B WE S (t' (j + 1)) { L with vk:=.slice ya (fl0 + 1) yk }):=hide (by rw [ht']; exact HLE.out)
         clear hrun ht' HLE
         go_wp2_with fail
         go_roundg (gk - 1)
         case measure=>omega
         case rel=>exact ⟨j + 1,t',_,by omega,by go_num,hBE,HRUN,HLWF⟩
        ·have b6:=b5.below hb6 b5.lt
         have sb6:Below N w w6:=sb5.trans (hb6.mono (Nat.le_of_lt b5.lt))
         replace y0:=cellB y0 hb6 (Nat.le_refl _)
         have HAT6:Hid (∀ i,i < S.n → FAt w6 g (i * 4) (u.val i)):=hide (fun i hi=>(HAT.out i hi).below hb6 (Nat.le_refl _))
         have HFN:Hid (LFin S (t j) (.sat fun c=>(u.val c).floor)):=hide ⟨_,HFO.out,hden,rfl⟩
         clear y1 hden HFO hb6 HLW5 HAT sb5 hB5
         go_wp2_with fail
         refine (floors_any w6 HAT6.out HQZ.out (by omega)).mono ?_
         rintro e w7 ⟨hb7,g2,hg2,rfl,hI⟩
         have b7:=b6.below hb7 b6.lt
         have sb7:Below N w w7:=sb6.trans (hb7.mono (Nat.le_of_lt b6.lt))
         have hNg2:N ≤ g2:=by have:=b6.lt; omega
         have hne:N ≠ g2:=by have:=b6.lt; omega
         obtain ⟨z0,z1,z2,z3,zf⟩:=b7.c4
         obtain ⟨WE,hWE⟩:∃ WE,putL N w7 0 [.int .i64 1,.slice (some ⟨g2,0,none⟩) S.n S.n,.slice none 0 0,.int .i64 ((j:Int) + 1)] = WE:=⟨_,rfl⟩
         have HA:Hid (LAns w WE S fuel (.agg #[.int .i64 1,.slice (some ⟨g2,0,none⟩) S.n S.n,.slice none 0 0,.int .i64 ((j:Int) + 1)])):=hide ⟨t,j,HRN.out,.inl ⟨_,g2,HFN.out,HFF.out j hj,by rw [HN.out]; exact hNg2,rfl,fun c hc=>by rw [← hWE]; exact iat_set4 (hI c hc) b7 (fun u hu=>ans_calm (x:=0) (y:=0) (a:=none) (b:=none) (i:=0) (j:=0) (k:=0) (l:=0) u (by simpa using hu)) hne ans_calm⟩⟩
         have sbE:Below N w WE:=by rw [← hWE]; exact below_putL sb7 (Nat.le_refl _)
         have HPE:=hide (HOK.out _ _ sbE HA.out)
         simp only [putL] at hWE
         have HWE:=hide hWE
         clear hI HA HOK hWE
         go_wp2_with fail
         refine bodyPost_ret (v:=.tuple #[.agg #[.int .i64 1,.slice (some ⟨g2,0,none⟩) S.n S.n,.slice none 0 0,.int .i64 ((j:Int) + 1)],.int .i64 0]) (by simp [results,Try.results10,go_sem,z0,z1,z2,z3]) rfl ?_
         rw [HWE.out]
         exact HPE.out
       ·have hYm0:0 < Y.m:=by have:l0 < Y.m:=hfi.1; omega
        have eYm:(0:Int) < (Y.m:Int):=by omega
        have HNV:Hid (Never' ((t j).sys S) (whyK Y u l0 Y.n)):=hide (by rw [HYS.out]; exact ⟨u,l0,hu,hfi,hfr,rfl⟩)
        have HQW:Hid (∀ i,Qz (whyK Y u l0 Y.n i)):=hide (fun i=>Qn.mono (why_size HFY.out hu.inv hfi.1 i Y.n (Nat.le_refl _)) (by decide))
        obtain ⟨y,hy⟩:∃ y,whyK Y u l0 Y.n = y:=⟨_,rfl⟩
        rw [hy] at HNV HQW hat
        obtain ⟨W4,hW4⟩:∃ W4,w3.alloc (.cells #[.slice none 0 0,.slice (some ⟨g,0,none⟩) Y.m Y.m] 63) = W4:=⟨_,rfl⟩
        obtain ⟨g13,hg13⟩:∃ g,w3.heap.size = g:=⟨_,rfl⟩
        have b13:Blk W4 g13 63 #[.slice none 0 0,.slice (some ⟨g,0,none⟩) Y.m Y.m]:=by rw [← hW4,← hg13]; exact Blk.new _ _ _
        have hb4:Below w3.heap.size w3 W4:=by rw [← hW4]; exact (Below.refl _ _).alloc (Nat.le_refl _) _
        have b5:=b4.below hb4 b4.lt
        have sb5:Below N w W4:=sb4.trans (hb4.mono (Nat.le_of_lt b4.lt))
        have hB5:Below B w1 W4:=hB3.trans (hb4.mono hB3s)
        have hB5s:B ≤ W4.heap.size:=Nat.le_trans hB3s hb4.size
        have HLW5:Hid (LiW B W4 S (t j) { L with vk:=vk }):=hide (HLW3.out.below hb4)
        have HAT:Hid (∀ i,i < S.m → FAt W4 g (i * 4) (y i)):=hide (fun i hi=>(hat i (by omega)).below hb4 (Nat.le_refl _))
        have hgn:g ≠ L.gn:=by have:=hb2.size; omega
        have HBL:Hid (Calls Try.prog 29 #[.pointer (some ⟨L.p,0,none⟩),.slice (some ⟨g,0,none⟩) Y.m Y.m] W4 (BlamePost B W4 S (t j) { L with vk:=vk } y)):=hide (blame_any (L:={ L with vk:=vk }) W4 HLW5.out hB5s HAT.out (fun i _=>HQW.out i) hY0 (by omega) (fun i _=>Nat.le_trans (HRN.out.need j (Nat.le_refl _) i) (by omega)) hgn)
        have HW4:=hide hW4
        have HG13:=hide hg13
        clear hW4 hg13 hat HLW HLW3 hb2 hb3 hb23 hb4 hfi hfr hu hy b3 sb3 hB b4 sb4 hB3 HAT HQW
        go_upto_region 16 with (fail)
        rw [HW4.out,HG13.out]
        clear HW4 HG13
        obtain ⟨y0,y1,-⟩:=b13.c2
        go_upto_region 17 with (fail)
        go_wp2_with (go_at_call 29; with_reducible refine HBL.out.mono ?_)
        rintro e w6 ⟨rfl,hb6,hLW6⟩
        have b6:=b5.below hb6 (by omega)
        have sb6:Below N w w6:=sb5.trans (hb6.mono (Nat.le_of_lt hNB))
        have hB6:Below B w1 w6:=hB5.trans hb6
        have hB6s:B ≤ w6.heap.size:=Nat.le_trans hB5s hb6.size
        have HBK:Hid (Calls Try.prog 30 #[.pointer (some ⟨L.p,0,none⟩)] w6 (BackPost B w6 S { t j with need:=bumped S.m y (t j).need } { L with vk:=vk })):=hide (back_any (L:={ L with vk:=vk }) w6 hLW6 hB6s HSZ.out.sm.2 (Nat.le_trans (HRN.out.forks j (Nat.le_refl _)) (by omega)))
        clear HBL hb6 hLW6 HLW5 y0 y1
        go_wp2_with (go_at_call 30; with_reducible refine HBK.out.mono ?_)
        clear HBK
        rintro e w7 ⟨hb7,hbn,hbs⟩
        have b7:=b6.below hb7 (by omega)
        have sb7:Below N w w7:=sb6.trans (hb7.mono (Nat.le_of_lt hNB))
        have hB7:Below B w1 w7:=hB6.trans hb7
        have hB7s:B ≤ w7.heap.size:=Nat.le_trans hB6s hb7.size
        cases hbk:backF (t j).forks (t j).floor (t j).top with
        | none=>
         obtain ⟨rfl,f,vk2,hLW7⟩:=hbn hbk
         have HRE:Hid (Calls Try.prog 31 #[.pointer (some ⟨L.p,0,none⟩)] w7 fun e w'=>Below w7.heap.size w7 w' ∧ ∃ v,e = .returned v ∧ OwnE w' w7.heap.size v (reasL S.m (bumped S.m y (t j).need))):=hide (reasons_any (L:={ L with vk:=vk2 }) w7 hLW7 (by omega))
         have HFN:Hid (LFin S (t j) (.unsat (bumped S.m y (t j).need))):=hide ⟨_,HNV.out,hbk,rfl⟩
         clear hbn hbs hLW7 hbk HNV
         go_upto_region 19 with (fail)
         go_wp2_with (go_at_call 31; with_reducible refine HRE.out.mono ?_)
         clear HRE
         rintro e w8 ⟨hb8,ve,rfl,hOE⟩
         obtain ⟨ea,ek,rfl⟩:=own_slice hOE
         have b8:=b7.below hb8 b7.lt
         have sb8:Below N w w8:=sb7.trans (hb8.mono (Nat.le_of_lt b7.lt))
         obtain ⟨z0,z1,z2,z3,zf⟩:=b8.c4
         obtain ⟨WE,hWE⟩:∃ WE,putL N w8 0 [.int .i64 2,.slice none 0 0,.slice ea (reasL S.m (bumped S.m y (t j).need)).length ek,.int .i64 ((j:Int) + 1)] = WE:=⟨_,rfl⟩
         have HA:Hid (LAns w WE S fuel (.agg #[.int .i64 2,.slice none 0 0,.slice ea (reasL S.m (bumped S.m y (t j).need)).length ek,.int .i64 ((j:Int) + 1)])):=hide ⟨t,j,HRN.out,.inr (.inl ⟨_,_,HFN.out,HFF.out j hj,by rw [← hWE,HN.out]; exact owne_le (owne_put hOE b7.lt) (Nat.le_of_lt b7.lt),rfl⟩)⟩
         have sbE:Below N w WE:=by rw [← hWE]; exact below_putL sb8 (Nat.le_refl _)
         have HPE:=hide (HOK.out _ _ sbE HA.out)
         simp only [putL] at hWE
         have HWE:=hide hWE
         clear hOE HA HOK hWE
         go_wp2_with fail
         refine bodyPost_ret (v:=.tuple #[.agg #[.int .i64 2,.slice none 0 0,.slice ea (reasL S.m (bumped S.m y (t j).need)).length ek,.int .i64 ((j:Int) + 1)],.int .i64 0]) (by simp [results,Try.results10,go_sem,z0,z1,z2,z3]) rfl ?_
         rw [HWE.out]
         exact HPE.out
        | some r=>
         obtain ⟨ks,f,tt⟩:=r
         obtain ⟨rfl,vk2,hLW7⟩:=hbs ks f tt hbk
         obtain ⟨t',hrun,ht'⟩:=HRN.out.snoc (.inl ⟨y,ks,f,tt,HNV.out,hbk,rfl⟩)
         have HRUN:=hide hrun
         have HLWF:Hid (LiW B w7 S (t' (j + 1)) { L with vk:=vk2 }):=hide (by rw [ht']; exact hLW7)
         clear hbn hbs hLW7 hbk HNV hrun ht'
         go_wp2_with fail
         go_roundg (gk - 1)
         case measure=>omega
         case rel=>exact ⟨j + 1,t',vk2,by omega,by go_num,hB7,HRUN,HLWF⟩
    ·have hj:j < rs.length:=by omega
     have ej:(j:Int) < (rs.length:Int):=by omega
     obtain ⟨b,o,rfl,hr⟩:=HX.out (by omega)
     obtain ⟨r0,rfit,rcs,m0,m1,mok⟩:=(hr j hj).below sb1 (Nat.le_of_eq HN.out)
     have hln:=HL.out rs[j] (List.getElem_mem hj)
     have HBD:Hid (∀ w':World,Below N w w' → (rs[j]).right n = false → Post (.returned (.tuple #[.agg #[.int .i64 0,.slice none 0 0,.slice none 0 0,.int .i64 0],.int .i64 1])) w'):=hide (fun w' hb h=>HB.out w' hb (iright_false hj h))
     have HJ2:Hid ((rs[j]).right n = true → ∀ i (h:i < rs.length),i < j + 1 → (rs[i]).right (n:Int) = true):=hide (fun h i hi hlt=>by
      by_cases he:i = j
      ·subst he; exact h
      ·exact HJ.out i hi (by omega))
     obtain ⟨r,hrr⟩:∃ r,rs[j] = r:=⟨_,rfl⟩
     rw [hrr] at r0 rfit rcs m0 m1 mok hln HBD HJ2
     replace hr:=hide hr
     clear hrr HJ
     obtain ⟨W2,hW2⟩:∃ W2,wr.alloc (.cells #[.slice r.at_ r.xs.length r.cap,.bool r.most.neg,.slice r.most.at_ r.most.ds.length r.most.cap] 48) = W2:=⟨_,rfl⟩
     have bx:Blk W2 wr.heap.size 48 #[.slice r.at_ r.xs.length r.cap,.bool r.most.neg,.slice r.most.at_ r.most.ds.length r.most.cap]:=by rw [← hW2]; exact Blk.new _ _ _
     have sb2:Below wr.heap.size wr W2:=by rw [← hW2]; exact (Below.refl _ _).alloc (Nat.le_refl _) _
     obtain ⟨gx,hgx⟩:∃ gx,wr.heap.size = gx:=⟨_,rfl⟩
     have hNg:N < wr.heap.size:=b1.lt
     have b2:=b1.below sb2 b1.lt
     have sbN:Below N w W2:=sb1.trans (sb2.mono (Nat.le_of_lt hNg))
     have sbW:Below W.heap.size W W2:=hB.trans (sb2.mono hB.size)
     replace rcs:=rcs.below sb2 (Nat.le_refl _)
     replace mok:=mok.below sb2 (Nat.le_refl _)
     rw [hgx] at bx
     have HW2:=hide hW2
     have HGX:=hide hgx
     clear hW2 hgx sb2 hB sb1 b1 hNg
     go_upto_region 7 with (fail)
     rw [HW2.out,HGX.out]
     clear HW2 HGX r0 m0 m1
     have x0:W2.cell? ⟨gx,0,none⟩ = some (.slice r.at_ r.xs.length r.cap):=bx.cell 0
     have x1:W2.cell? ⟨gx,1,none⟩ = some (.bool r.most.neg):=bx.cell 1
     have x2:W2.cell? ⟨gx,2,none⟩ = some (.slice r.most.at_ r.most.ds.length r.most.cap):=bx.cell 2
     by_cases hlen:r.xs.length = n
     ·have e5:((r.xs.length:Int) != (n:Int)) = false:=by simp [hlen]
      have hlx:r.xs.length ≤ 1000:=by omega
      replace hlen:=hide hlen
      cases hf:r.most.ok with
      | false=>
       have hr2:(!r.most.ok) = true:=by rw [hf]; rfl
       have HE:Hid (r.right n = false):=hide (by unfold LRow.right; rw [hf,Bool.false_and,Bool.and_false])
       clear hf
       go_wp2_with fail
       refine (iwrong_any r.most W2 mok hr2).mono ?_
       rintro e w2 ⟨rfl,hb2⟩
       have b3:=b2.below hb2 b2.lt
       have sbN2:=sbN.trans (hb2.mono (Nat.le_of_lt b2.lt))
       obtain ⟨z0,z1,z2,z3,zf⟩:=b3.c4
       clear hr2 x0 x1 x2
       go_wp2_with fail
       refine bodyPost_ret (v:=.tuple #[.agg #[.int .i64 0,.slice none 0 0,.slice none 0 0,.int .i64 0],.int .i64 1]) (by simp [results,Try.results10,go_sem,z0,z1,z2,z3]) rfl ?_
       exact HBD.out _ ((((sbN2.setCell (Nat.le_refl _) _).setCell (Nat.le_refl _) _).setCell (Nat.le_refl _) _).setCell (Nat.le_refl _) _) HE.out
      | true=>
       have hr2:(!r.most.ok) = false:=by rw [hf]; rfl
       have HFM:=hide hf
       clear hf
       go_wp2_with fail
       refine (iwrong_any r.most W2 mok hr2).mono ?_
       rintro e w2 ⟨rfl,hb2⟩
       have b3:=b2.below hb2 b2.lt
       have sbN2:=sbN.trans (hb2.mono (Nat.le_of_lt b2.lt))
       have sbW2:=sbW.trans (hb2.mono sbW.size)
       have y0:=cellB x0 hb2 (Nat.le_refl _)
       replace rcs:=rcs.below hb2 (Nat.le_refl _)
       clear hr2 x0 x1 x2 b2 sbN sbW
       cases hall:r.xs.all Raw.ok with
       | false=>
        have hr3:(!r.xs.all Raw.ok) = true:=by rw [hall]; rfl
        have HE:Hid (r.right n = false):=hide (by unfold LRow.right; rw [hall,Bool.and_false,Bool.and_false])
        clear hall
        go_wp2_with fail
        refine (icontains_any r.at_ r.cap r.xs w2 rcs hlx hr3).mono ?_
        rintro e w3 ⟨rfl,hb3⟩
        have b4:=b3.below hb3 b3.lt
        have sbN3:=sbN2.trans (hb3.mono (Nat.le_of_lt b3.lt))
        obtain ⟨z0,z1,z2,z3,zf⟩:=b4.c4
        clear hr3 y0
        go_wp2_with fail
        refine bodyPost_ret (v:=.tuple #[.agg #[.int .i64 0,.slice none 0 0,.slice none 0 0,.int .i64 0],.int .i64 1]) (by simp [results,Try.results10,go_sem,z0,z1,z2,z3]) rfl ?_
        exact HBD.out _ ((((sbN3.setCell (Nat.le_refl _) _).setCell (Nat.le_refl _) _).setCell (Nat.le_refl _) _).setCell (Nat.le_refl _) _) HE.out
       | true=>
        have hr3:(!r.xs.all Raw.ok) = false:=by rw [hall]; rfl
        have HE:Hid (r.right n = true):=hide (by unfold LRow.right; rw [hall,HFM.out,decide_eq_true (by have:=hlen.out; omega)]; rfl)
        clear hall
        go_wp2_with fail
        refine (icontains_any r.at_ r.cap r.xs w2 rcs hlx hr3).mono ?_
        rintro e w3 ⟨rfl,hb3⟩
        have sbW3:=sbW2.trans (hb3.mono sbW2.size)
        clear hr3 y0
        go_wp2_with fail
        go_roundg (gk - 1)
        case measure=>omega
        case rel=>exact ⟨j + 1,by omega,by go_num,sbW3,hide (HJ2.out HE.out)⟩
     ·have e5:((r.xs.length:Int) != (n:Int)) = true:=by simp; omega
      have e6:¬(r.xs.length:Int) = (n:Int):=by omega
      have HE:Hid (r.right n = false):=hide (by unfold LRow.right; rw [decide_eq_false (by omega)]; rfl)
      obtain ⟨z0,z1,z2,z3,zf⟩:=b2.c4
      go_wp2_with fail
      refine bodyPost_ret (v:=.tuple #[.agg #[.int .i64 0,.slice none 0 0,.slice none 0 0,.int .i64 0],.int .i64 1]) (by simp [results,Try.results10,go_sem,z0,z1,z2,z3]) rfl ?_
      exact HBD.out _ ((((sbN.setCell (Nat.le_refl _) _).setCell (Nat.le_refl _) _).setCell (Nat.le_refl _) _).setCell (Nat.le_refl _) _) HE.out
end Go.Proofs.Ytphjffbldhhdiaa
