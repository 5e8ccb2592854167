/- simplex's lay: by its contract. -/
import Derived.Test.YtphjffbldhhdiaaSxLayM
namespace Go.Proofs.Ytphjffbldhhdiaa
open Go.RowKit

def ZRow (w:World) (g n:Nat):Prop:=Blk w g 71 (madeCells zeroF.cells (n * 4))
theorem wpList_make_fracB {w:World} {ops:Array Oper} {rest:List Oper} {o:Oper} {a:Act} {Q:Exit → Act → World → Prop} (hgd:o.guard = none) (l c:Operand) (ho:o.op = Op.makeSlice 61 l c)
  (L C:Int) (n:Nat) (hl:a.eval l = .int .i64 L) (hc:a.eval c = .int .i64 C) (hL:L = (n:Int)) (hC:C = (n:Int)) (hn:n ≤ 1000000)
  (hK:∀ w',ZRow w' w.heap.size n → Below w.heap.size w w' → wpList Try.prog ops Q rest (a.put o.dst (.slice (some ⟨w.heap.size,0,none⟩) n n)) w'):wpList Try.prog ops Q (o :: rest) a w:=by
 obtain ⟨i0,hi0,hz0,hz1,hz2⟩:=info_parts infoF
 refine wpList_make_full w hgd l c 61 ho w.heap.size 71 i0 zeroF 4 Try.underlying61 hi0 hz0 hz1 .i64 .i64 L C n hl hc hL hC (by rw [hz2]; omega) (by unfold maxLen; omega) (Nat.le_refl _) (fun w' h1 h2=>?_)
 have h3:=own_rowN h1
 rw [Array.toArray_toList] at h3
 exact hK w' h3 (below_of_grown h2 (fun g h=>by cases h) (Nat.le_refl _))
theorem news_one (w:World) (x:Value) (t:TypeId):∀ j u,[x][j]? = some u → (w.alloc (.cells #[x] t)).cell? ((⟨w.heap.size,0,none⟩:Addr).add j) = some u:=World.news_of_block (heap_alloc_new w _)
theorem news_four (w:World) (x y z v:Value) (t:TypeId):∀ j u,[x,y,z,v][j]? = some u → (w.alloc (.cells #[x,y,z,v] t)).cell? ((⟨w.heap.size,0,none⟩:Addr).add j) = some u:=World.news_of_block (heap_alloc_new w _)

set_option maxRecDepth 100000 in
set_option maxHeartbeats 6400000 in
theorem lay_any {S:Sys} {a:Option Addr} {cap b o:Nat} (w:World) (hn:S.n ≤ 1000) (hm:S.m ≤ 1000) (ha:0 < S.m → a = some ⟨b,o,none⟩) (hR:RowsV w b o S) :
  Calls Try.prog 53 #[.int .i64 (S.n:Int),.slice a S.m cap] w (LayPost w S):=by
 generalize hP:LayPost w S = Post
 have HP:=hide hP
 clear hP
 have HR:=hide hR
 have HA:=hide ha
 clear hR ha
 have hs1:(S.n:Int) + (S.m:Int) = ((S.n + S.m:Nat):Int):=by omega
 have HS1:=hide hs1
 clear hs1
 go_enter Try.func53,Try.ntmps53
 go_wp2_with (at_make; refine wpList_make_fracB rfl _ _ rfl _ _ (S.n + S.m) rfl rfl HS1.out HS1.out (by omega) ?_)
 intro W hV sb
 obtain ⟨N,hN⟩:∃ N,w.heap.size = N:=⟨_,rfl⟩
 rw [hN] at hV sb ⊢
 obtain ⟨P,hPP⟩:∃ P,W.heap.size = P:=⟨_,rfl⟩
 obtain ⟨W2,hW2⟩:∃ W2,W.alloc (.cells #[.int .i64 (S.n:Int),.slice none 0 0,.slice (some ⟨N,0,none⟩) (S.n + S.m) (S.n + S.m),.slice none 0 0,.slice none 0 0,.slice none 0 0] 108) = W2:=⟨_,rfl⟩
 have h0:LayS N w b o S (Lk0 P N) W2:=by rw [← hW2,← hPP]; exact LayS.start hV sb
 have HN:=hide hN
 have HW2:=hide hW2
 have HPP:=hide hPP
 clear hN hW2 hPP hV sb
 go_wp2_with fail
 rw [HW2.out,HPP.out]
 clear HW2
 go_loopg [18] S.n (fun k v18 wr=>∃ (j:Nat) (Y:Lk),j + k = S.n ∧ v18 = .int .i64 (j:Int) ∧ Hid (Y.p = P ∧ Y.nc = j ∧ Y.nm = 0 ∧ Y.nt = 0 ∧ Y.nx = 0 ∧ Y.nr = 0) ∧ LayS N w b o S Y wr)
 case atStart=>exact ⟨0,Lk0 P N,by omega,rfl,hide ⟨rfl,rfl,rfl,rfl,rfl,rfl⟩,h0⟩
 case round=>
  clear h0
  obtain ⟨j,Y,hjk,rfl,HY,h⟩:=hrel
  rcases Nat.eq_zero_or_pos gk with h0 | h0
  ·subst h0
   obtain rfl:j = S.n:=by omega
   have HY2:=HY
   clear hjk HY
   go_wp2_with fail
   go_loopg [34] S.m (fun k v34 wr=>∃ (j:Nat) (Y:Lk),j + k = S.m ∧ v34 = .int .i64 (j:Int) ∧ Hid (Y.p = P ∧ Y.nc = S.n ∧ Y.nm = j ∧ Y.nt = j ∧ Y.nx = j ∧ Y.nr = j) ∧ LayS N w b o S Y wr)
   case atStart=>exact ⟨0,Y,by omega,rfl,HY2,h⟩
   case round=>
    clear h HY2
    obtain ⟨j,Y,hjk,rfl,HY,h⟩:=hrel
    rcases Nat.eq_zero_or_pos gk with h0 | h0
    ·subst h0
     obtain rfl:j = S.m:=by omega
     have HD:Hid (LayPost w S (.returned (.pointer (some ⟨P,0,none⟩))) wr):=hide (by
      obtain ⟨hp,hc0,hm0,ht0,hx0,hr0⟩:=HY.out
      exact LayS.done (by rw [HN.out]; exact h) hm0 ht0 hc0 hx0 hr0 HR.out (by rw [hp]))
     clear h HY
     go_wp2_with fail
     rw [← HP.out]
     exact HD.out
    ·have hj:j < S.m:=by omega
     have ej:(j:Int) < (S.m:Int):=by omega
     obtain rfl:=HA.out (by omega)
     obtain ⟨ra,rk,r0,rfit,rcs,rmost⟩:=HR.out j hj
     obtain ⟨mn,ma,ml,mk,mm,mb,mi,mj,s0,s1,s2,s3,-⟩:=rmost
     have hle:=Nat.le_of_eq HN.out
     have m0:=cellB s0 h.bel hle
     have m1:=cellB s1 h.bel hle
     have m2:=cellB s2 h.bel hle
     have m3:=cellB s3 h.bel hle
     have c0:=cellB r0 h.bel hle
     have HSM:Hid (∀ d,d < 4 → [Value.bool mn,.slice ma ml mk,.bool mm,.slice mb mi mj][d]? = w.cell? ⟨b,o + j * 5 + 1 + d,none⟩):=hide (fun d hd=>by
      match d,hd with
      | 0,_=>exact s0.symm
      | 1,_=>exact s1.symm
      | 2,_=>exact s2.symm
      | 3,_=>exact s3.symm)
     have HSR:Hid (Fit ra S.n rk ∧ w.cell? ⟨b,o + j * 5,none⟩ = some (.slice ra S.n rk) ∧ (0 < S.n → ∃ rb ro,ra = some ⟨rb,ro,none⟩ ∧ ∀ c,c < S.n → FAt w rb (ro + c * 4) (S.A j c))):=hide ⟨rfit,r0,rcs⟩
     clear s0 s1 s2 s3 r0 rfit rcs hle
     obtain ⟨W2,hW2⟩:∃ W2,wr.alloc (.cells #[.slice ra S.n rk,.bool mn,.slice ma ml mk,.bool mm,.slice mb mi mj] 99) = W2:=⟨_,rfl⟩
     obtain ⟨gx,hgx⟩:∃ gx,wr.heap.size = gx:=⟨_,rfl⟩
     obtain ⟨Ya,HYa,ha⟩:∃ Ya:Lk,Hid (Ya.p = P ∧ Ya.nc = S.n ∧ Ya.nm = j ∧ Ya.nt = j ∧ Ya.nx = j ∧ Ya.nr = j ∧ Ya.bx = some gx ∧ Ya.bcs = #[.slice ra S.n rk,.bool mn,.slice ma ml mk,.bool mm,.slice mb mi mj]) ∧ LayS N w b o S Ya W2:=by
      rw [← hW2]
      refine ⟨_,hide ?_,h.setBox⟩
      obtain ⟨g1,g2,g3,g4,g5,g6⟩:=HY.out
      exact ⟨g1,g2,g3,g4,g5,g6,by rw [← hgx],rfl⟩
     have HGX:=hide hgx
     have HW2:=hide hW2
     clear hW2 hgx h HY
     go_upto_region 10 with (fail)
     rw [HW2.out,HGX.out]
     clear HW2 HGX m0 m1 m2 m3 c0
     -- most
     have ht:=ha.tab
     rw [HYa.out.1] at ht
     have k1:W2.cell? ⟨P,1,none⟩ = some Ya.vm:=ht.cell 1
     clear ht
     have bx:=ha.box gx HYa.out.2.2.2.2.2.2.1
     rw [HYa.out.2.2.2.2.2.2.2] at bx
     have x1:W2.cell? ⟨gx,1,none⟩ = some (.bool mn):=bx.cell 1
     have x2:W2.cell? ⟨gx,2,none⟩ = some (.slice ma ml mk):=bx.cell 2
     have x3:W2.cell? ⟨gx,3,none⟩ = some (.bool mm):=bx.cell 3
     have x4:W2.cell? ⟨gx,4,none⟩ = some (.slice mb mi mj):=bx.cell 4
     clear bx
     have h4:=(ha.below (w':=W2.alloc (.cells #[.bool mn,.slice ma ml mk,.bool mm,.slice mb mi mj] 71)) ((Below.refl W2.heap.size W2).alloc (Nat.le_refl _) _)).drew
     obtain ⟨xs,hx1,hx2⟩:=h4.om
     have hcount:Ya.nm = j:=HYa.out.2.2.1
     have hpt:Ya.p = P:=HYa.out.1
     obtain ⟨i0,hi0,hz0,hz1,hz2⟩:=info_parts infoF
     have hpm:some P ≠ Ya.vm.ownBlock:=by rw [← hpt]; exact ha.ne_of (r:=.p) (r':=.m) (by intro e; cases e) rfl
     have ht4:=h4.tab
     rw [hpt] at ht4
     have hbase:=h4.hN
     have hHH:(W2.alloc (.cells #[.bool mn,.slice ma ml mk,.bool mm,.slice mb mi mj] 71)).drew.heap.size = W2.heap.size + 1:=by simp
     rw [hcount] at hx1
     have hlen:xs.length = j * 4:=hx1.1
     have hbA:Below W2.heap.size W2 (W2.alloc (.cells #[.bool mn,.slice ma ml mk,.bool mm,.slice mb mi mj] 71)).drew:=((Below.refl _ _).alloc (Nat.le_refl _) _).drew
     have hPl:P < (W2.alloc (.cells #[.bool mn,.slice ma ml mk,.bool mm,.slice mb mi mj] 71)).drew.heap.size:=ht4.lt
     have hgm:some gx ≠ Ya.vm.ownBlock:=ha.ne_of (r:=.b) (r':=.m) (by intro e; cases e) HYa.out.2.2.2.2.2.2.1
     have hGl:gx < (W2.alloc (.cells #[.bool mn,.slice ma ml mk,.bool mm,.slice mb mi mj] 71)).drew.heap.size:=(h4.box gx HYa.out.2.2.2.2.2.2.1).lt
     have HX1:=hide hx1
     replace hx2:=hide hx2
     replace hcount:=hide hcount
     replace hpt:=hide hpt
     replace hlen:=hide hlen
     replace ht4:=hide ht4
     replace hHH:=hide hHH
     replace ha:=hide ha
     replace h4:=hide h4
     clear hx1
     refine wp_region_till (S:=fun w'=>w'.cell? ⟨P,1,none⟩ = some Ya.vm ∧ w'.cell? ⟨gx,1,none⟩ = some (.bool mn) ∧ w'.cell? ⟨gx,2,none⟩ = some (.slice ma ml mk) ∧ w'.cell? ⟨gx,3,none⟩ = some (.bool mm) ∧ w'.cell? ⟨gx,4,none⟩ = some (.slice mb mi mj)) (fun i=>decide (i < 9)) (by kernel_rfl) (⟨k1,x1,x2,x3,x4⟩) (fun hS=>?_)
     refine Till_take (i:=0) (oi:=⟨some 39,.move (.tmp 5),101,"simplex.go:81",#[],none⟩) (v:=?_) rfl (by kernel_rfl) (by kernel_rfl) (by kernel_rfl) (fun _ _ _ ha=>ha) rfl (by kernel_rfl) (Or.inl ⟨by rfl,?_⟩) hS ?_
     rotate_left
     ·(intro w' hSw; (try dsimp only at hSw); go_simp; try with_reducible rfl)
     try simp only [Act.put,sB,sC,sD]
     refine Till_take (i:=1) (oi:=⟨some 40,.move (.tmp 5),101,"simplex.go:81",#[],none⟩) (v:=?_) rfl (by kernel_rfl) (by kernel_rfl) (by kernel_rfl) (fun _ _ _ ha=>ha) rfl (by kernel_rfl) (Or.inl ⟨by rfl,?_⟩) hS ?_
     rotate_left
     ·(intro w' hSw; (try dsimp only at hSw); go_simp; try with_reducible rfl)
     try simp only [Act.put,sB,sC,sD]
     refine Till_take (i:=2) (oi:=⟨some 41,.nilCheck (.tmp 40),0,"simplex.go:81",#[eD 1],none⟩) (v:=?_) rfl (by kernel_rfl) (by kernel_rfl) (by kernel_rfl) (fun _ _ _ ha=>ha) rfl (by kernel_rfl) (Or.inl ⟨by rfl,?_⟩) hS ?_
     rotate_left
     ·(intro w' hSw; (try dsimp only at hSw); go_simp; try with_reducible rfl)
     try simp only [Act.put,sB,sC,sD]
     refine Till_take (i:=3) (oi:=⟨some 42,.fieldAddr 108 (.tmp 41) 1,0,"simplex.go:81",#[eD 2],none⟩) (v:=?_) rfl (by kernel_rfl) (by kernel_rfl) (by kernel_rfl) (fun _ _ _ ha=>ha) rfl (by kernel_rfl) (Or.inl ⟨by rfl,?_⟩) hS ?_
     rotate_left
     ·(intro w' hSw; (try dsimp only at hSw); go_simp; try with_reducible rfl)
     try simp only [Act.put,sB,sC,sD]
     refine Till_take (i:=4) (oi:=⟨some 43,.load 61 (.tmp 42),61,"simplex.go:81",#[eD 3],none⟩) (v:=?_) rfl (by kernel_rfl) (by kernel_rfl) (by kernel_rfl) (fun _ _ _ ha=>ha) rfl (by kernel_rfl) (Or.inl ⟨by rfl,?_⟩) hS ?_
     rotate_left
     ·(intro w' hSw; (try dsimp only at hSw); go_simp; try with_reducible rfl)
     try simp only [Act.put,sB,sC,sD]
     refine Till_take (i:=5) (oi:=⟨some 44,.fieldAddr 99 (.tmp 8) 1,0,"simplex.go:81",#[],none⟩) (v:=?_) rfl (by kernel_rfl) (by kernel_rfl) (by kernel_rfl) (fun _ _ _ ha=>ha) rfl (by kernel_rfl) (Or.inl ⟨by rfl,?_⟩) hS ?_
     rotate_left
     ·(intro w' hSw; (try dsimp only at hSw); go_simp; try with_reducible rfl)
     try simp only [Act.put,sB,sC,sD]
     refine Till_take (i:=6) (oi:=⟨some 45,.load 71 (.tmp 44),71,"simplex.go:81",#[eD 5],none⟩) (v:=?_) rfl (by kernel_rfl) (by kernel_rfl) (by kernel_rfl) (fun _ _ _ ha=>ha) rfl (by kernel_rfl) (Or.inl ⟨by rfl,?_⟩) hS ?_
     rotate_left
     ·(intro w' hSw; (try dsimp only at hSw); go_simp; try with_reducible rfl)
     try simp only [Act.put,sB,sC,sD]
     refine Till_ready (rs:=[7]) (by kernel_rfl) (by kernel_rfl) (by simp) ?_
     refine AllReadyT.cons (o:=⟨some 46,.buildSlice 61 1 #[(0,.tmp 45)],61,"simplex.go:81",#[eD 6],none⟩) rfl (fun K hK=>?_) AllReadyT.nil
     go_simp
     refine hK.out _ _ ⟨cellK hbA hS.1,cellK hbA hS.2.1,cellK hbA hS.2.2.1,cellK hbA hS.2.2.2.1,cellK hbA hS.2.2.2.2⟩ (fun hS=>?_)
     clear hK K hbA
     try simp only [Act.put,sB,sC,sD]
     try simp only [Act.put,sB,sC,sD]
     refine Till_ready (rs:=[8]) (by kernel_rfl) (by kernel_rfl) (by simp) ?_
     refine AllReadyT.cons (o:=⟨some 47,.call { callee:=.builtin .append,args:=#[.tmp 43,.tmp 46],argTypes:=#[61,61] },61,"simplex.go:81",#[eD 4,eD 7],none⟩) rfl (fun K hK=>?_) AllReadyT.nil
     refine step_append_lies _ rfl (.tmp 43) (.tmp 46) 61 rfl N 71 i0 (zeroF) 4 64 Try.underlying61 hi0 hz0 hz1 hz2 rfl (by decide) Ya.vm j xs (by rfl) HX1.out ⟨W2.heap.size,0,none⟩ 1 1 [.bool mn,.slice ma ml mk,.bool mm,.slice mb mi mj] (by rfl) rfl (news_four _ _ _ _ _ _) (by simp [Value.oneCell']) (by decide) (by unfold maxLen; omega) (by omega) hbase (W2.heap.size + 1) hHH.out ?_
     intro g cp w1 hown hgrow hat hlt
     refine hK.out _ _ ⟨(hgrow.cell_far _ hPl hpm).trans hS.1,(hgrow.cell_far _ hGl hgm).trans hS.2.1,(hgrow.cell_far _ hGl hgm).trans hS.2.2.1,(hgrow.cell_far _ hGl hgm).trans hS.2.2.2.1,(hgrow.cell_far _ hGl hgm).trans hS.2.2.2.2⟩ (fun hS=>?_)
     clear hK K
     try simp only [Act.put,sB,sC,sD]
     try simp only [Act.put,sB,sC,sD]
     refine Till_turn (by kernel_rfl) ?_
     refine wpAnyH_take (i:=9) (oi:=⟨some 48,.nilCheck (.tmp 39),0,"simplex.go:81",#[eD 0,eP 0,eP 1,eP 2,eP 3,eP 4,eP 5,eP 6,eP 7,eP 8],none⟩) (v:=?_) rfl (by kernel_rfl) (by kernel_rfl) (by kernel_rfl) (fun _ _ _ ha=>ha) (Or.inl ⟨by rfl,?_⟩) trivial ?_
     rotate_left
     ·(intro w' hSw; (try dsimp only at hSw); go_simp; try with_reducible rfl)
     try simp only [Act.put,sB,sC,sD]
     refine wpAnyH_take (i:=10) (oi:=⟨some 49,.fieldAddr 108 (.tmp 48) 1,0,"simplex.go:81",#[eD 9,eP 0,eP 1,eP 2,eP 3,eP 4,eP 5,eP 6,eP 7,eP 8],none⟩) (v:=?_) rfl (by kernel_rfl) (by kernel_rfl) (by kernel_rfl) (fun _ _ _ ha=>ha) (Or.inl ⟨by rfl,?_⟩) trivial ?_
     rotate_left
     ·(intro w' hSw; (try dsimp only at hSw); go_simp; try with_reducible rfl)
     try simp only [Act.put,sB,sC,sD]
     refine wpAnyH_ready (rs:=[11]) (by kernel_rfl) (by simp) ?_
     refine AllReadyH.cons (o:=⟨none,.store 61 (.tmp 49) (.tmp 47),0,"simplex.go:81",#[eD 10,eD 8,eC 8,eP 0,eP 1,eP 2,eP 3,eP 4,eP 5,eP 6,eP 7,eP 8],none⟩) rfl (fun K hK=>?_) AllReadyH.nil
     have hx1:=HX1.out
     clear HX1
     replace h4:=h4.out
     have h5:=h4.pushM (xs:=xs) (news:=[.bool mn,.slice ma ml mk,.bool mm,.slice mb mi mj]) (by rw [hcount.out]; exact HSM.out) (by rw [hcount.out]; exact hlen.out) hx2.out (by rw [hcount.out]; exact hown) hgrow (hat.imp id (fun e=>e.trans hHH.out.symm)) hlt
     rw [hpt.out,hcount.out] at h5
     have z1:w1.cell? ⟨P,1,none⟩ = some Ya.vm:=(ht4.out.grown hgrow hpm).cell 1
     have f1:w1.frozen? ⟨P,1,none⟩ = false:=(ht4.out.grown hgrow hpm).frozen 1
     obtain ⟨W3,hW3⟩:∃ W3,w1.setCell ⟨P,1,none⟩ (.slice (some ⟨g,0,none⟩) (j + 1) cp) = W3:=⟨_,rfl⟩
     obtain ⟨Yd,HYd,hd⟩:∃ Yd:Lk,Hid (Yd.p = P ∧ Yd.nc = S.n ∧ Yd.nm = j + 1 ∧ Yd.nt = j ∧ Yd.nx = j ∧ Yd.nr = j ∧ Yd.bx = some gx ∧ Yd.bcs = #[.slice ra S.n rk,.bool mn,.slice ma ml mk,.bool mm,.slice mb mi mj]) ∧ LayS N w b o S Yd W3:=by
      have hc:=hcount.out
      rw [← hW3]
      refine ⟨_,hide ?_,h5⟩
      obtain ⟨g1,g2,g3,g4,g5,g6,g7,g8⟩:=HYa.out
      refine ⟨rfl,?_,?_,?_,?_,?_,?_,?_⟩ <;> first | assumption | rfl
     have HW3:=hide hW3
     clear hW3 h5 hown hgrow hat hlt h4 hx1 hx2 hi0 hz0 hz1 hz2 ht4 hcount hlen hpt hHH hpm hbase
     go_simp
     refine hK.out _ _ trivial (fun _=>?_)
     clear hK K z1 f1
     try simp only [Act.put,sB,sC,sD]
     refine wpAnyH_done (by kernel_rfl) ?_ _
     rw [HW3.out]
     clear HW3 hS
     -- told
     have h4:=(hd.below (w':=W3.alloc (.cells #[.int .i64 ((S.n:Int) + (j:Int))] 3)) ((Below.refl W3.heap.size W3).alloc (Nat.le_refl _) _))
     obtain ⟨xs,hx1,hx2⟩:=h4.ot
     have hcount:Yd.nt = j:=HYd.out.2.2.2.1
     have hpt:Yd.p = P:=HYd.out.1
     obtain ⟨i0,hi0,hz0,hz1,hz2⟩:=info_parts infoN
     have hpm:some P ≠ Yd.vt.ownBlock:=by rw [← hpt]; exact hd.ne_of (r:=.p) (r':=.t) (by intro e; cases e) rfl
     have ht4:=h4.tab
     rw [hpt] at ht4
     have hbase:=h4.hN
     have hHH:(W3.alloc (.cells #[.int .i64 ((S.n:Int) + (j:Int))] 3)).heap.size = W3.heap.size + 1:=by simp
     have ht:=hd.tab
     rw [hpt] at ht
     have k1:W3.cell? ⟨P,3,none⟩ = some Yd.vt:=ht.cell 3
     clear ht
     rw [hcount] at hx1
     have hlen:xs.length = j * 1:=hx1.1
     have HX1:=hide hx1
     replace hx2:=hide hx2
     replace hcount:=hide hcount
     replace hpt:=hide hpt
     replace hlen:=hide hlen
     replace ht4:=hide ht4
     replace hHH:=hide hHH
     replace hd:=hide hd
     replace h4:=hide h4
     clear hx1
     go_wp2_with (at_builtin; refine wpList_append_lies _ rfl (.tmp 54) (.tmp 58) 26 rfl N 3 i0 (.int .i64 0) 1 8 Try.underlying26 hi0 hz0 hz1 hz2 rfl (by decide) Yd.vt j xs rfl HX1.out ⟨W3.heap.size,0,none⟩ 1 1 [.int .i64 ((S.n:Int) + (j:Int))] rfl rfl (news_one _ _ _) ?c1t (by decide) ?c2t ?c3t hbase (W3.heap.size + 1) hHH.out ?_)
     case c1t=>simp [Value.oneCell']
     case c2t=>unfold maxLen; omega
     case c3t=>omega
     intro g cp w1 hown hgrow hat hlt
     have hx1:=HX1.out
     clear HX1
     replace hd:=hd.out
     replace h4:=h4.out
     have h5:=h4.pushT (xs:=xs) (by rw [hcount.out]) (by rw [hcount.out]; exact hlen.out) hx2.out (by rw [hcount.out]; exact hown) hgrow (hat.imp id (fun e=>e.trans hHH.out.symm)) hlt
     rw [hpt.out,hcount.out] at h5
     have z1:w1.cell? ⟨P,3,none⟩ = some Yd.vt:=(ht4.out.grown hgrow hpm).cell 3
     have f1:w1.frozen? ⟨P,3,none⟩ = false:=(ht4.out.grown hgrow hpm).frozen 3
     obtain ⟨W5,hW5⟩:∃ W5,w1.setCell ⟨P,3,none⟩ (.slice (some ⟨g,0,none⟩) (j + 1) cp) = W5:=⟨_,rfl⟩
     obtain ⟨Ye,HYe,he⟩:∃ Ye:Lk,Hid (Ye.p = P ∧ Ye.nc = S.n ∧ Ye.nm = j + 1 ∧ Ye.nt = j + 1 ∧ Ye.nx = j ∧ Ye.nr = j ∧ Ye.bx = some gx ∧ Ye.bcs = #[.slice ra S.n rk,.bool mn,.slice ma ml mk,.bool mm,.slice mb mi mj]) ∧ LayS N w b o S Ye W5:=by
      have hc:=hcount.out
      rw [← hW5]
      refine ⟨_,hide ?_,h5⟩
      obtain ⟨g1,g2,g3,g4,g5,g6,g7,g8⟩:=HYd.out
      refine ⟨rfl,?_,?_,?_,?_,?_,?_,?_⟩ <;> first | assumption | rfl
     have HW5:=hide hW5
     clear hW5 h5 hown hgrow hat hlt h4 hx1 hx2 hi0 hz0 hz1 hz2 ht4 hcount hlen hpt hHH hpm hbase
     replace he:=hide he
     go_upto_region 12 with (fail)
     rw [HW5.out]
     replace he:=he.out
     clear HW5 z1 f1 k1 hd HYd
     -- times
     have ht:=he.tab
     rw [HYe.out.1] at ht
     have k1:W5.cell? ⟨P,5,none⟩ = some Ye.vx:=ht.cell 5
     clear ht
     have bx:=he.box gx HYe.out.2.2.2.2.2.2.1
     rw [HYe.out.2.2.2.2.2.2.2] at bx
     have x0:W5.cell? ⟨gx,0,none⟩ = some (.slice ra S.n rk):=bx.cell 0
     clear bx
     have hsrc:0 < S.n → ∃ b o,ra = some ⟨b,o,none⟩ ∧ ∀ i,i < S.n * 4 → ∃ u,W5.drew.cell? ⟨b,o + i,none⟩ = some u ∧ u.oneCell' = true:=src_of HSR.out.2.2 (by rw [HN.out]; exact he.bel.drew)
     have HSRC:=hide hsrc
     have HFIT:=hide HSR.out.1
     clear hsrc
     replace he:=hide he
     refine wp_region_till (S:=fun w'=>w'.cell? ⟨P,5,none⟩ = some Ye.vx ∧ w'.cell? ⟨gx,0,none⟩ = some (.slice ra S.n rk)) (fun i=>decide (i < 10)) (by kernel_rfl) (⟨k1,x0⟩) (fun hS=>?_)
     refine Till_take (i:=0) (oi:=⟨some 62,.move (.tmp 5),101,"simplex.go:83",#[],none⟩) (v:=?_) rfl (by kernel_rfl) (by kernel_rfl) (by kernel_rfl) (fun _ _ _ he=>he) rfl (by kernel_rfl) (Or.inl ⟨by rfl,?_⟩) hS ?_
     rotate_left
     ·(intro w' hSw; (try dsimp only at hSw); go_simp; try with_reducible rfl)
     try simp only [Act.put,sB,sC,sD]
     refine Till_take (i:=1) (oi:=⟨some 63,.move (.tmp 5),101,"simplex.go:83",#[],none⟩) (v:=?_) rfl (by kernel_rfl) (by kernel_rfl) (by kernel_rfl) (fun _ _ _ he=>he) rfl (by kernel_rfl) (Or.inl ⟨by rfl,?_⟩) hS ?_
     rotate_left
     ·(intro w' hSw; (try dsimp only at hSw); go_simp; try with_reducible rfl)
     try simp only [Act.put,sB,sC,sD]
     refine Till_take (i:=2) (oi:=⟨some 64,.nilCheck (.tmp 63),0,"simplex.go:83",#[eD 1],none⟩) (v:=?_) rfl (by kernel_rfl) (by kernel_rfl) (by kernel_rfl) (fun _ _ _ he=>he) rfl (by kernel_rfl) (Or.inl ⟨by rfl,?_⟩) hS ?_
     rotate_left
     ·(intro w' hSw; (try dsimp only at hSw); go_simp; try with_reducible rfl)
     try simp only [Act.put,sB,sC,sD]
     refine Till_take (i:=3) (oi:=⟨some 65,.fieldAddr 108 (.tmp 64) 5,0,"simplex.go:83",#[eD 2],none⟩) (v:=?_) rfl (by kernel_rfl) (by kernel_rfl) (by kernel_rfl) (fun _ _ _ he=>he) rfl (by kernel_rfl) (Or.inl ⟨by rfl,?_⟩) hS ?_
     rotate_left
     ·(intro w' hSw; (try dsimp only at hSw); go_simp; try with_reducible rfl)
     try simp only [Act.put,sB,sC,sD]
     refine Till_take (i:=4) (oi:=⟨some 66,.load 106 (.tmp 65),106,"simplex.go:83",#[eD 3],none⟩) (v:=?_) rfl (by kernel_rfl) (by kernel_rfl) (by kernel_rfl) (fun _ _ _ he=>he) rfl (by kernel_rfl) (Or.inl ⟨by rfl,?_⟩) hS ?_
     rotate_left
     ·(intro w' hSw; (try dsimp only at hSw); go_simp; try with_reducible rfl)
     try simp only [Act.put,sB,sC,sD]
     refine Till_take (i:=5) (oi:=⟨some 67,.fieldAddr 99 (.tmp 8) 0,0,"simplex.go:83",#[],none⟩) (v:=?_) rfl (by kernel_rfl) (by kernel_rfl) (by kernel_rfl) (fun _ _ _ he=>he) rfl (by kernel_rfl) (Or.inl ⟨by rfl,?_⟩) hS ?_
     rotate_left
     ·(intro w' hSw; (try dsimp only at hSw); go_simp; try with_reducible rfl)
     try simp only [Act.put,sB,sC,sD]
     refine Till_take (i:=6) (oi:=⟨some 68,.load 61 (.tmp 67),61,"simplex.go:83",#[eD 5],none⟩) (v:=?_) rfl (by kernel_rfl) (by kernel_rfl) (by kernel_rfl) (fun _ _ _ he=>he) rfl (by kernel_rfl) (Or.inl ⟨by rfl,?_⟩) hS ?_
     rotate_left
     ·(intro w' hSw; (try dsimp only at hSw); go_simp; try with_reducible rfl)
     try simp only [Act.put,sB,sC,sD]
     refine Till_ready (rs:=[7]) (by kernel_rfl) (by kernel_rfl) (by simp) ?_
     refine AllReadyT.cons (o:=⟨some 69,.call { callee:=.value (.func 71),args:=#[.tmp 68],argTypes:=#[61] },61,"simplex.go:83",#[eD 6],none⟩) rfl (fun K hK=>?_) AllReadyT.nil
     go_simp
     (go_at_call 71; (with_reducible refine (clone_any _ HFIT.out hn HSRC.out).mono ?_); rintro e wC ⟨hb1,ca,ck,rfl,hcl⟩)
     go_wp2_with fail
     refine hK.out _ _ ⟨cellK hb1 hS.1,cellK hb1 hS.2⟩ (fun hS=>?_)
     clear hK K
     replace he:=he.out
     have hbC:Below W5.heap.size W5 wC:=((Below.refl W5.heap.size W5).drew).trans hb1
     have HCL:=hide hcl
     clear hb1 hcl
     try simp only [Act.put,sB,sC,sD]
     try simp only [Act.put,sB,sC,sD]
     refine Till_ready (rs:=[8]) (by kernel_rfl) (by kernel_rfl) (by simp) ?_
     refine AllReadyT.cons (o:=⟨some 70,.buildSlice 106 1 #[(0,.tmp 69)],106,"simplex.go:83",#[eD 7],none⟩) rfl (fun K hK=>?_) AllReadyT.nil
     have hbW:Below W5.heap.size W5 (wC.alloc (.cells #[.slice ca S.n ck] 61)):=(hbC.alloc hbC.size _)
     have h4:=he.below hbW
     obtain ⟨xs,hx1,hx2⟩:=h4.ox
     have hcount:Ye.nx = j:=HYe.out.2.2.2.2.1
     have hpt:Ye.p = P:=HYe.out.1
     obtain ⟨i0,hi0,hz0,hz1,hz2⟩:=info_parts infoSl
     have hpm:some P ≠ Ye.vx.ownBlock:=by rw [← hpt]; exact he.ne_of (r:=.p) (r':=.x) (by intro e; cases e) rfl
     have ht4:=h4.tab
     rw [hpt] at ht4
     have hbase:=h4.hN
     have hHH:(wC.alloc (.cells #[.slice ca S.n ck] 61)).heap.size = wC.heap.size + 1:=by simp
     rw [hcount] at hx1
     have hlen:xs.length = j * 1:=hx1.1
     have hbA:Below wC.heap.size wC (wC.alloc (.cells #[.slice ca S.n ck] 61)):=((Below.refl _ _).alloc (Nat.le_refl _) _)
     have hPl:P < (wC.alloc (.cells #[.slice ca S.n ck] 61)).heap.size:=ht4.lt
     have hgm:some gx ≠ Ye.vx.ownBlock:=he.ne_of (r:=.b) (r':=.x) (by intro e; cases e) HYe.out.2.2.2.2.2.2.1
     have hGl:gx < (wC.alloc (.cells #[.slice ca S.n ck] 61)).heap.size:=(h4.box gx HYe.out.2.2.2.2.2.2.1).lt
     have HX1:=hide hx1
     replace hx2:=hide hx2
     replace hcount:=hide hcount
     replace hpt:=hide hpt
     replace hlen:=hide hlen
     replace ht4:=hide ht4
     replace hHH:=hide hHH
     replace he:=hide he
     replace h4:=hide h4
     clear hx1
     go_simp
     refine hK.out _ _ ⟨cellK hbA hS.1,cellK hbA hS.2⟩ (fun hS=>?_)
     clear hK K hbA
     try simp only [Act.put,sB,sC,sD]
     try simp only [Act.put,sB,sC,sD]
     refine Till_ready (rs:=[9]) (by kernel_rfl) (by kernel_rfl) (by simp) ?_
     refine AllReadyT.cons (o:=⟨some 71,.call { callee:=.builtin .append,args:=#[.tmp 66,.tmp 70],argTypes:=#[106,106] },106,"simplex.go:83",#[eD 4,eD 8,eC 7],none⟩) rfl (fun K hK=>?_) AllReadyT.nil
     refine step_append_lies _ rfl (.tmp 66) (.tmp 70) 106 rfl N 61 i0 (.slice none 0 0) 1 24 Try.underlying106 hi0 hz0 hz1 hz2 rfl (by decide) Ye.vx j xs (by rfl) HX1.out ⟨wC.heap.size,0,none⟩ 1 1 [.slice ca S.n ck] (by rfl) rfl (news_one _ _ _) (by simp [Value.oneCell']) (by decide) (by unfold maxLen; omega) (by omega) hbase (wC.heap.size + 1) hHH.out ?_
     intro g cp w1 hown hgrow hat hlt
     refine hK.out _ _ ⟨(hgrow.cell_far _ hPl hpm).trans hS.1,(hgrow.cell_far _ hGl hgm).trans hS.2⟩ (fun hS=>?_)
     clear hK K
     try simp only [Act.put,sB,sC,sD]
     try simp only [Act.put,sB,sC,sD]
     refine Till_turn (by kernel_rfl) ?_
     refine wpAnyH_take (i:=10) (oi:=⟨some 72,.nilCheck (.tmp 62),0,"simplex.go:83",#[eD 0,eP 0,eP 1,eP 2,eP 3,eP 4,eP 5,eP 6,eP 7,eP 8,eP 9],none⟩) (v:=?_) rfl (by kernel_rfl) (by kernel_rfl) (by kernel_rfl) (fun _ _ _ he=>he) (Or.inl ⟨by rfl,?_⟩) trivial ?_
     rotate_left
     ·(intro w' hSw; (try dsimp only at hSw); go_simp; try with_reducible rfl)
     try simp only [Act.put,sB,sC,sD]
     refine wpAnyH_take (i:=11) (oi:=⟨some 73,.fieldAddr 108 (.tmp 72) 5,0,"simplex.go:83",#[eD 10,eP 0,eP 1,eP 2,eP 3,eP 4,eP 5,eP 6,eP 7,eP 8,eP 9],none⟩) (v:=?_) rfl (by kernel_rfl) (by kernel_rfl) (by kernel_rfl) (fun _ _ _ he=>he) (Or.inl ⟨by rfl,?_⟩) trivial ?_
     rotate_left
     ·(intro w' hSw; (try dsimp only at hSw); go_simp; try with_reducible rfl)
     try simp only [Act.put,sB,sC,sD]
     refine wpAnyH_ready (rs:=[12]) (by kernel_rfl) (by simp) ?_
     refine AllReadyH.cons (o:=⟨none,.store 106 (.tmp 73) (.tmp 71),0,"simplex.go:83",#[eD 11,eD 9,eC 9,eP 0,eP 1,eP 2,eP 3,eP 4,eP 5,eP 6,eP 7,eP 8,eP 9],none⟩) rfl (fun K hK=>?_) AllReadyH.nil
     have hx1:=HX1.out
     clear HX1
     replace h4:=h4.out
     have he:=he.out
     obtain ⟨W6,hW6⟩:∃ W6,w1.setCell ⟨P,5,none⟩ (.slice (some ⟨g,0,none⟩) (j + 1) cp) = W6:=⟨_,rfl⟩
     obtain ⟨Yf,HYf,hf⟩:∃ Yf:Lk,Hid (Yf.p = P ∧ Yf.nc = S.n ∧ Yf.nm = j + 1 ∧ Yf.nt = j + 1 ∧ Yf.nx = j + 1 ∧ Yf.nr = j + 1) ∧ LayS N w b o S Yf W6:=by
      obtain ⟨g1,g2,g3,g4,g5,g6,_⟩:=HYe.out
      have hc2:0 < S.n → ∃ g b' o' t cs,ra = some ⟨b',o',none⟩ ∧ ca = some ⟨g,0,none⟩ ∧ W5.heap.size ≤ g ∧ Blk (wC.alloc (.cells #[.slice ca S.n ck] 61)) g t cs ∧ ∀ i,i < S.n * 4 → cs[i]? = W5.cell? ⟨b',o' + i,none⟩:=fun hn=>by
       obtain ⟨g,b',o',t,cs,e1,e2,e3,e4,e5⟩:=HCL.out hn
       exact ⟨g,b',o',t,cs,e1,e2,e3,e4.alloc _,e5⟩
      obtain ⟨Yf,⟨q1,q2,q3,q4,q5,q6⟩,h6⟩:=he.pushRow HN.out hbW g5 g6 HSR.out.2.1 HSR.out.2.2 hc2 hlen.out hx2.out hown hgrow (hat.imp id (fun e=>e.trans hHH.out.symm)) hlt
      rw [hpt.out] at h6
      exact ⟨Yf,hide ⟨q1.trans g1,q2.trans g2,q3.trans g3,q4.trans g4,q5,q6⟩,by rw [← hW6]; exact h6⟩
     have z1:w1.cell? ⟨P,5,none⟩ = some Ye.vx:=(ht4.out.grown hgrow hpm).cell 5
     have f1:w1.frozen? ⟨P,5,none⟩ = false:=(ht4.out.grown hgrow hpm).frozen 5
     have HW6:=hide hW6
     clear hW6 hown hgrow hat hlt h4 hx1 hx2 hi0 hz0 hz1 hz2 ht4 hcount hlen hpt hHH hpm hbase
     go_simp
     refine hK.out _ _ trivial (fun _=>?_)
     clear hK K z1 f1
     try simp only [Act.put,sB,sC,sD]
     refine wpAnyH_done (by kernel_rfl) ?_ _
     rw [HW6.out]
     clear HW6 hS
     go_wp2_with fail
     go_roundg (gk - 1)
     case measure=>omega
     case rel=>
      obtain ⟨g1,g2,g3,g4,g5,g6⟩:=HYf.out
      exact ⟨j + 1,Yf,by omega,by go_num,hide ⟨g1,g2,g3,g4,g5,g6⟩,hf⟩
  ·have hj:j < S.n:=by omega
   have h4:=(h.below (w':=wr.alloc (.cells #[.int .i64 (j:Int)] 3)) ((Below.refl wr.heap.size wr).alloc (Nat.le_refl _) _))
   obtain ⟨xs,hx1,hx2⟩:=h4.oc
   have hcount:Y.nc = j:=HY.out.2.1
   have hpt:Y.p = P:=HY.out.1
   obtain ⟨i0,hi0,hz0,hz1,hz2⟩:=info_parts infoN
   have hpm:some P ≠ Y.vc.ownBlock:=by rw [← hpt]; exact h.ne_of (r:=.p) (r':=.c) (by intro e; cases e) rfl
   have ht4:=h4.tab
   rw [hpt] at ht4
   have hbase:=h4.hN
   have hHH:(wr.alloc (.cells #[.int .i64 (j:Int)] 3)).heap.size = wr.heap.size + 1:=by simp
   have ht:=h.tab
   rw [hpt] at ht
   have k1:wr.cell? ⟨P,4,none⟩ = some Y.vc:=ht.cell 4
   clear ht
   rw [hcount] at hx1
   have hlen:xs.length = j * 1:=hx1.1
   have HX1:=hide hx1
   replace hx2:=hide hx2
   replace hcount:=hide hcount
   replace hpt:=hide hpt
   replace hlen:=hide hlen
   replace ht4:=hide ht4
   replace hHH:=hide hHH
   replace h:=hide h
   replace h4:=hide h4
   clear hx1
   go_wp2_with (at_builtin; refine wpList_append_lies _ rfl (.tmp 25) (.tmp 27) 26 rfl N 3 i0 (.int .i64 0) 1 8 Try.underlying26 hi0 hz0 hz1 hz2 rfl (by decide) Y.vc j xs rfl HX1.out ⟨wr.heap.size,0,none⟩ 1 1 [.int .i64 (j:Int)] rfl rfl (news_one _ _ _) ?c1c (by decide) ?c2c ?c3c hbase (wr.heap.size + 1) hHH.out ?_)
   case c1c=>simp [Value.oneCell']
   case c2c=>unfold maxLen; omega
   case c3c=>omega
   intro g cp w1 hown hgrow hat hlt
   have hx1:=HX1.out
   clear HX1
   replace h:=h.out
   replace h4:=h4.out
   have h5:=h4.pushC (xs:=xs)  (by rw [hcount.out]; exact hlen.out) hx2.out (by rw [hcount.out]; exact hown) hgrow (hat.imp id (fun e=>e.trans hHH.out.symm)) hlt
   rw [hpt.out,hcount.out] at h5
   have z1:w1.cell? ⟨P,4,none⟩ = some Y.vc:=(ht4.out.grown hgrow hpm).cell 4
   have f1:w1.frozen? ⟨P,4,none⟩ = false:=(ht4.out.grown hgrow hpm).frozen 4
   obtain ⟨W3,hW3⟩:∃ W3,w1.setCell ⟨P,4,none⟩ (.slice (some ⟨g,0,none⟩) (j + 1) cp) = W3:=⟨_,rfl⟩
   obtain ⟨Yc,HYc,hc⟩:∃ Yc:Lk,Hid (Yc.p = P ∧ Yc.nc = j + 1 ∧ Yc.nm = 0 ∧ Yc.nt = 0 ∧ Yc.nx = 0 ∧ Yc.nr = 0) ∧ LayS N w b o S Yc W3:=by
    have hc:=hcount.out
    rw [← hW3]
    refine ⟨_,hide ?_,h5⟩
    obtain ⟨g1,g2,g3,g4,g5,g6⟩:=HY.out
    refine ⟨rfl,?_,?_,?_,?_,?_⟩ <;> first | assumption | rfl
   have HW3:=hide hW3
   clear hW3 h5 hown hgrow hat hlt h4 hx1 hx2 hi0 hz0 hz1 hz2 ht4 hcount hlen hpt hHH hpm hbase
   replace hc:=hide hc
   go_wp2_with fail
   rw [HW3.out]
   replace hc:=hc.out
   clear HW3 z1 f1 k1 h HY
   go_wp2_with fail
   go_roundg (gk - 1)
   case measure=>omega
   case rel=>exact ⟨j + 1,Yc,by omega,by go_num,HYc,hc⟩
end Go.Proofs.Ytphjffbldhhdiaa
