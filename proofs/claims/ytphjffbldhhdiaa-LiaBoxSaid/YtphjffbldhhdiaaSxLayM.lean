/- A table while it is laid: where each of its parts lies. -/
import Derived.Test.YtphjffbldhhdiaaSxRaw
import Derived.Test.YtphjffbldhhdiaaSxOwn
import Derived.Deep.AppendLies
import Derived.WalkSpells
import Derived.Laws.AppendOwnNone
namespace Go.Proofs.Ytphjffbldhhdiaa
open Go.RowKit

theorem infoN:(Try.prog.info? 3).map (fun i=>(i.zero,i.size,i.bytes)) = some (some (.int .i64 0),1,8):=by kernel_rfl
theorem infoSl:(Try.prog.info? 61).map (fun i=>(i.zero,i.size,i.bytes)) = some (some (.slice none 0 0),1,24):=by kernel_rfl

theorem own_stays {w w':World} {N:Nat} {e:TypeId} {size:Nat} {v:Value} {n:Nat} {xs:List Value} (h:w.ownsRow N e size v n xs) (hb:∀ g,v.ownBlock = some g → w'.heap[g]? = w.heap[g]?):w'.ownsRow N e size v n xs:=by
 refine ⟨h.1,?_⟩
 rcases h.2 with h1 | ⟨g,cap,cur,hv,hg,h2,rest⟩
 ·exact .inl h1
 ·exact .inr ⟨g,cap,cur,hv,hg,(hb g (by rw [hv]; rfl)).trans h2,rest⟩
theorem own_cells {w:World} {N:Nat} {e:TypeId} {size n c:Nat} {a:Option Addr} {xs:List Value} (h:w.ownsRow N e size (.slice a n c) n xs) (hn:0 < n):∃ g cs,a = some ⟨g,0,none⟩ ∧ N ≤ g ∧ Blk w g e cs ∧ ∀ i,i < n * size → cs[i]? = xs[i]?:=by
 rcases h.2 with ⟨_,h0⟩ | ⟨g,cap,cur,hv,hg,h2,_,_,_,ht⟩
 ·omega
 ·injection hv with hv
  refine ⟨g,cur,hv,hg,h2,fun i hi=>?_⟩
  rw [← ht,List.getElem?_take_of_lt hi]
  simp

inductive Nm where
 | p | v | m | t | c | x | b | r (i:Nat)
structure Lk where
 p:Nat
 gv:Nat
 vm:Value
 vt:Value
 vc:Value
 vx:Value
 nm:Nat
 nt:Nat
 nc:Nat
 nx:Nat
 nr:Nat
 row:Nat → Nat
 ra:Nat → Option Addr
 rk:Nat → Nat
 bx:Option Nat
 bcs:Array Value
def Lk.loc (K:Lk) (n:Nat):Nm → Option Nat
 | .p=>some K.p
 | .v=>some K.gv
 | .m=>K.vm.ownBlock
 | .t=>K.vt.ownBlock
 | .c=>K.vc.ownBlock
 | .x=>K.vx.ownBlock
 | .b=>K.bx
 | .r i=>if i < K.nr ∧ 0 < n then some (K.row i) else none
structure Locs (N:Nat) (w:World) (loc:Nm → Option Nat):Prop where
 inj:∀ r r' g,loc r = some g → loc r' = some g → r = r'
 lo:∀ r g,loc r = some g → N ≤ g ∧ g < w.heap.size
theorem Locs.put {N:Nat} {w w':World} {loc loc':Nm → Option Nat} (h:Locs N w loc) (hN:N ≤ w.heap.size) (hs:w.heap.size ≤ w'.heap.size) {r0:Nm} {g0:Nat} (h0:∀ g,loc' r0 = some g → g = g0) (hg:loc r0 = some g0 ∨ w.heap.size ≤ g0) (hlt:g0 < w'.heap.size) (he:∀ r,r ≠ r0 → loc' r = loc r):Locs N w' loc' where
 inj:=fun r r' g h1 h2=>by
  have key:∀ r,r ≠ r0 → loc' r = some g0 → False:=fun r hr h1=>by
   rw [he r hr] at h1
   rcases hg with hg | hg
   ·exact hr (h.inj _ _ _ h1 hg)
   ·have:=(h.lo _ _ h1).2; omega
  by_cases hr:r = r0
  ·by_cases hr':r' = r0
   ·rw [hr,hr']
   ·rw [hr] at h1
    have:=h0 g h1
    subst this
    exact (key r' hr' h2).elim
  ·by_cases hr':r' = r0
   ·rw [hr'] at h2
    have:=h0 g h2
    subst this
    exact (key r hr h1).elim
   ·rw [he r hr] at h1
    rw [he r' hr'] at h2
    exact h.inj _ _ _ h1 h2
 lo:=fun r g h1=>by
  by_cases hr:r = r0
  ·rw [hr] at h1
   have:=h0 g h1
   subst this
   refine ⟨?_,hlt⟩
   rcases hg with hg | hg
   ·exact (h.lo _ _ hg).1
   ·omega
  ·rw [he r hr] at h1
   have:=h.lo _ _ h1
   exact ⟨this.1,by omega⟩
theorem Locs.grow {N:Nat} {w w':World} {loc:Nm → Option Nat} (h:Locs N w loc) (hs:w.heap.size ≤ w'.heap.size):Locs N w' loc:=⟨h.inj,fun r g h1=>⟨(h.lo r g h1).1,Nat.lt_of_lt_of_le (h.lo r g h1).2 hs⟩⟩

structure LayS (N:Nat) (w:World) (b o:Nat) (S:Sys) (K:Lk) (wr:World):Prop where
 hN:N ≤ wr.heap.size
 bel:Below N w wr
 loc:Locs N wr (K.loc S.n)
 tab:Blk wr K.p 108 #[.int .i64 (S.n:Int),K.vm,.slice (some ⟨K.gv,0,none⟩) (S.n + S.m) (S.n + S.m),K.vt,K.vc,K.vx]
 val:Blk wr K.gv 71 (madeCells zeroF.cells ((S.n + S.m) * 4))
 om:∃ xs,wr.ownsRow N 71 4 K.vm K.nm xs ∧ ∀ i d,i < K.nm → d < 4 → xs[i * 4 + d]? = w.cell? ⟨b,o + i * 5 + 1 + d,none⟩
 ot:∃ xs,wr.ownsRow N 3 1 K.vt K.nt xs ∧ ∀ i,i < K.nt → xs[i]? = some (.int .i64 ((S.n + i:Nat):Int))
 oc:∃ xs,wr.ownsRow N 3 1 K.vc K.nc xs ∧ ∀ i,i < K.nc → xs[i]? = some (.int .i64 (i:Int))
 ox:∃ xs,wr.ownsRow N 61 1 K.vx K.nx xs ∧ ∀ i,i < K.nx → xs[i]? = some (.slice (K.ra i) S.n (K.rk i))
 rows:∀ i,i < K.nr → 0 < S.n → K.ra i = some ⟨K.row i,0,none⟩ ∧ ∃ rb ro cap t cs,w.cell? ⟨b,o + i * 5,none⟩ = some (.slice (some ⟨rb,ro,none⟩) S.n cap) ∧ Blk wr (K.row i) t cs ∧ ∀ k,k < S.n * 4 → cs[k]? = w.cell? ⟨rb,ro + k,none⟩
 box:∀ g,K.bx = some g → Blk wr g 99 K.bcs
def Lk0 (p gv:Nat):Lk:=⟨p,gv,.slice none 0 0,.slice none 0 0,.slice none 0 0,.slice none 0 0,0,0,0,0,0,fun _=>0,fun _=>none,fun _=>0,none,#[]⟩
theorem LayS.start {w W:World} {S:Sys} {b o N:Nat} (hV:Blk W N 71 (madeCells zeroF.cells ((S.n + S.m) * 4))) (sb:Below N w W) :
  LayS N w b o S (Lk0 W.heap.size N) (W.alloc (.cells #[.int .i64 (S.n:Int),.slice none 0 0,.slice (some ⟨N,0,none⟩) (S.n + S.m) (S.n + S.m),.slice none 0 0,.slice none 0 0,.slice none 0 0] 108)):=by
 have hlt:=hV.lt
 refine { hN:=by simp; omega,bel:=sb.alloc (by omega) _,loc:=⟨fun r r' g h1 h2=>?_,fun r g h1=>?_⟩,tab:=Blk.new _ _ _,val:=hV.alloc _,om:=⟨[],World.ownsRow_nil _ _ _ _,fun i d h=>absurd h (Nat.not_lt_zero _)⟩,ot:=⟨[],World.ownsRow_nil _ _ _ _,fun i h=>absurd h (Nat.not_lt_zero _)⟩,oc:=⟨[],World.ownsRow_nil _ _ _ _,fun i h=>absurd h (Nat.not_lt_zero _)⟩,ox:=⟨[],World.ownsRow_nil _ _ _ _,fun i h=>absurd h (Nat.not_lt_zero _)⟩,rows:=fun i h=>absurd h (Nat.not_lt_zero _),box:=fun g h=>by cases h }
 ·cases r <;> cases r' <;> simp [Lk.loc,Lk0,Value.ownBlock] at h1 h2 <;> first | rfl | omega
 ·cases r <;> simp [Lk.loc,Lk0,Value.ownBlock] at h1 <;> subst h1 <;> simp <;> omega
section
variable {N b o:Nat} {w wr w':World} {S:Sys} {K:Lk}
theorem LayS.below (h:LayS N w b o S K wr) (hb:Below wr.heap.size wr w'):LayS N w b o S K w' where
 hN:=Nat.le_trans h.hN hb.size
 bel:=h.bel.trans (hb.mono h.hN)
 loc:=h.loc.grow hb.size
 tab:=h.tab.below hb h.tab.lt
 val:=h.val.below hb h.val.lt
 om:=by obtain ⟨xs,h1,h2⟩:=h.om; exact ⟨xs,own_stays h1 (fun g hg=>hb.block g (h.loc.lo .m g hg).2),h2⟩
 ot:=by obtain ⟨xs,h1,h2⟩:=h.ot; exact ⟨xs,own_stays h1 (fun g hg=>hb.block g (h.loc.lo .t g hg).2),h2⟩
 oc:=by obtain ⟨xs,h1,h2⟩:=h.oc; exact ⟨xs,own_stays h1 (fun g hg=>hb.block g (h.loc.lo .c g hg).2),h2⟩
 ox:=by obtain ⟨xs,h1,h2⟩:=h.ox; exact ⟨xs,own_stays h1 (fun g hg=>hb.block g (h.loc.lo .x g hg).2),h2⟩
 rows:=fun i hi hn=>by
  obtain ⟨e,rb,ro,cap,t,cs,h1,h2,h3⟩:=h.rows i hi hn
  exact ⟨e,rb,ro,cap,t,cs,h1,h2.below hb h2.lt,h3⟩
 box:=fun g hg=>(h.box g hg).below hb (h.box g hg).lt
theorem LayS.drew (h:LayS N w b o S K wr):LayS N w b o S K wr.drew:=h.below (Below.refl _ _).drew
theorem LayS.ne_p (h:LayS N w b o S K wr) {r:Nm} (hr:r ≠ .p) {g:Nat} (hg:K.loc S.n r = some g):g ≠ K.p:=fun e=>hr (h.loc.inj _ _ K.p (by rw [← e]; exact hg) rfl)
theorem LayS.ne_of (h:LayS N w b o S K wr) {r r':Nm} (hr:r ≠ r') {g:Nat} (hg:K.loc S.n r = some g):some g ≠ K.loc S.n r':=fun e=>hr (h.loc.inj _ _ g hg e.symm)
theorem LayS.setBox (h:LayS N w b o S K wr) {cs:Array Value}:LayS N w b o S { K with bx:=some wr.heap.size,bcs:=cs } (wr.alloc (.cells cs 99)):=by
 have h':=h.below (w':=wr.alloc (.cells cs 99)) ((Below.refl _ _).alloc (Nat.le_refl _) _)
 refine { hN:=h'.hN,bel:=h'.bel,loc:=?_,tab:=h'.tab,val:=h'.val,om:=h'.om,ot:=h'.ot,oc:=h'.oc,ox:=h'.ox,rows:=h'.rows,box:=fun g hg=>?_ }
 ·refine h.loc.put (r0:=.b) (g0:=wr.heap.size) h.hN (by simp) (fun g' hg'=>(Option.some.inj hg').symm) (.inr (Nat.le_refl _)) (by simp) (fun r hr=>?_)
  cases r with
  | b=>exact absurd rfl hr
  | _=>rfl
 ·obtain rfl:=Option.some.inj hg
  exact Blk.new _ _ _
theorem LayS.addRow (h:LayS N w b o S K wr) (hb:Below wr.heap.size wr w') {a:Option Addr} {g k:Nat} (hx:K.nx = K.nr)
  (hc:0 < S.n → a = some ⟨g,0,none⟩ ∧ wr.heap.size ≤ g ∧ ∃ rb ro cap t cs,w.cell? ⟨b,o + K.nr * 5,none⟩ = some (.slice (some ⟨rb,ro,none⟩) S.n cap) ∧ Blk w' g t cs ∧ ∀ k,k < S.n * 4 → cs[k]? = w.cell? ⟨rb,ro + k,none⟩) :
  LayS N w b o S { K with nr:=K.nr + 1,row:=put K.row K.nr g,ra:=put K.ra K.nr a,rk:=put K.rk K.nr k } w':=by
 have h':=h.below hb
 refine { hN:=h'.hN,bel:=h'.bel,loc:=?_,tab:=h'.tab,val:=h'.val,om:=h'.om,ot:=h'.ot,oc:=h'.oc,ox:=?_,rows:=?_,box:=h'.box }
 ·rcases Nat.eq_zero_or_pos S.n with h0 | h0
  ·have e:Lk.loc { K with nr:=K.nr + 1,row:=put K.row K.nr g,ra:=put K.ra K.nr a,rk:=put K.rk K.nr k } S.n = K.loc S.n:=funext fun r=>by
    cases r with
    | r i=>
     show (if i < K.nr + 1 ∧ 0 < S.n then some (put K.row K.nr g i) else none) = if i < K.nr ∧ 0 < S.n then some (K.row i) else none
     rw [if_neg (by omega),if_neg (by omega)]
    | _=>rfl
   rw [e]
   exact h'.loc
  ·obtain ⟨rfl,hg,_,_,_,_,_,_,hblk,_⟩:=hc h0
   refine h.loc.put (r0:=.r K.nr) (g0:=g) h.hN hb.size (fun g' hg'=>?_) (.inr hg) hblk.lt (fun r hr=>?_)
   ·have e:(if K.nr < K.nr + 1 ∧ 0 < S.n then some (put K.row K.nr g K.nr) else none) = some g':=hg'
    rw [if_pos ⟨Nat.lt_succ_self _,h0⟩,put_at] at e
    exact (Option.some.inj e).symm
   ·cases r with
    | r i=>
     have hne:i ≠ K.nr:=fun e=>hr (by rw [e])
     show (if i < K.nr + 1 ∧ 0 < S.n then some (put K.row K.nr g i) else none) = if i < K.nr ∧ 0 < S.n then some (K.row i) else none
     rw [put_else _ _ hne]
     by_cases hi:i < K.nr
     ·rw [if_pos ⟨by omega,h0⟩,if_pos ⟨hi,h0⟩]
     ·rw [if_neg (by omega),if_neg (by omega)]
    | _=>rfl
 ·obtain ⟨xs,h1,h2⟩:=h'.ox
  refine ⟨xs,h1,fun i hi=>?_⟩
  have hi':i < K.nx:=hi
  show xs[i]? = some (.slice (put K.ra K.nr a i) S.n (put K.rk K.nr k i))
  rw [put_else _ _ (by omega),put_else _ _ (by omega)]
  exact h2 i hi
 ·intro i hi hn
  have hi':i < K.nr + 1:=hi
  show put K.ra K.nr a i = some ⟨put K.row K.nr g i,0,none⟩ ∧ ∃ rb ro cap t cs,w.cell? ⟨b,o + i * 5,none⟩ = some (.slice (some ⟨rb,ro,none⟩) S.n cap) ∧ Blk w' (put K.row K.nr g i) t cs ∧ ∀ k,k < S.n * 4 → cs[k]? = w.cell? ⟨rb,ro + k,none⟩
  by_cases he:i = K.nr
  ·subst he
   rw [put_at,put_at]
   obtain ⟨e,_,rest⟩:=hc hn
   exact ⟨e,rest⟩
  ·rw [put_else _ _ he,put_else _ _ he]
   exact h'.rows i (by omega) hn

theorem LayS.pushM (h:LayS N w b o S K wr) {g cap:Nat} {xs:List Value} {news:List Value} (hnw:∀ d,d < 4 → news[d]? = w.cell? ⟨b,o + K.nm * 5 + 1 + d,none⟩) (hlen:xs.length = K.nm * 4) (hxs:∀ i d,i < K.nm → d < 4 → xs[i * 4 + d]? = w.cell? ⟨b,o + i * 5 + 1 + d,none⟩)
  (hown:w'.ownsRow N 71 4 (.slice (some ⟨g,0,none⟩) (K.nm + 1) cap) (K.nm + 1) (xs ++ news)) (hgrow:wr.grownBy w' K.vm.ownBlock) (hat:K.vm.ownBlock = some g ∨ g = wr.heap.size) (hlt:g < w'.heap.size) :
  LayS N w b o S { K with vm:=.slice (some ⟨g,0,none⟩) (K.nm + 1) cap,nm:=K.nm + 1 } (w'.setCell ⟨K.p,1,none⟩ (.slice (some ⟨g,0,none⟩) (K.nm + 1) cap)):=by
 have stay:∀ (r:Nm) (g0:Nat),r ≠ .m → r ≠ .p → K.loc S.n r = some g0 → (w'.setCell ⟨K.p,1,none⟩ (.slice (some ⟨g,0,none⟩) (K.nm + 1) cap)).heap[g0]? = wr.heap[g0]?:=fun r g0 hr hp hg=>
  (Below.heap_setCell w' _ _ g0 (h.ne_p hp hg)).trans (hgrow.block g0 (h.loc.lo r g0 hg).2 (h.ne_of (r':=.m) hr hg))
 have gp:g ≠ K.p:=by
  rcases hat with e | e
  ·exact h.ne_p (r:=.m) (by intro e; cases e) e
  ·intro e2; have:=h.tab.lt; omega
 have hpb:Blk w' K.p _ _:=h.tab.grown hgrow (h.ne_of (r:=.p) (r':=.m) (by intro e; cases e) rfl)
 refine { hN:=?_,bel:=?_,loc:=?_,tab:=?_,val:=?_,om:=?_,ot:=?_,oc:=?_,ox:=?_,rows:=?_,box:=fun g0 hg0=>(stay .b g0 (by intro e; cases e) (by intro e; cases e) hg0).trans (h.box g0 hg0) }
 ·simp only [World.setCell,Array.size_modify]; exact Nat.le_trans h.hN hgrow.size
 ·refine Below.setCell (h.bel.grown hgrow h.hN (fun k hk=>(h.loc.lo .m k hk).1)) (h.loc.lo .p _ rfl).1 _
 ·refine Locs.grow (w:=w') ?_ (by simp [World.setCell])
  refine h.loc.put (r0:=.m) (g0:=g) h.hN hgrow.size (fun g' hg'=>(Option.some.inj hg').symm) (hat.imp id (fun e=>by omega)) hlt (fun r hr=>?_)
  cases r with
  | m=>exact absurd rfl hr
  | _=>rfl
 ·exact hpb.set_ 1 _
 ·exact (stay .v K.gv (by intro e; cases e) (by intro e; cases e) rfl).trans h.val
 ·refine ⟨_,own_stays hown (fun g' hg'=>Below.heap_setCell w' _ _ g' ?_),fun i d hi hd=>by
   have hi':i < K.nm + 1:=hi
   have hxl:xs.length = K.nm * 4:=hlen
   by_cases he:i = K.nm
   ·subst he
    rw [List.getElem?_append_right (by omega),show K.nm * 4 + d - xs.length = d from by omega]
    exact hnw d hd
   ·rw [List.getElem?_append_left (by omega)]
    exact hxs i d (by omega) hd⟩
  obtain rfl:g = g':=Option.some.inj hg'
  exact gp
 ·obtain ⟨ys,h1,h2⟩:=h.ot
  exact ⟨ys,own_stays h1 (fun g' hg'=>stay .t g' (by intro e; cases e) (by intro e; cases e) hg'),h2⟩
 ·obtain ⟨ys,h1,h2⟩:=h.oc
  exact ⟨ys,own_stays h1 (fun g' hg'=>stay .c g' (by intro e; cases e) (by intro e; cases e) hg'),h2⟩
 ·obtain ⟨ys,h1,h2⟩:=h.ox
  exact ⟨ys,own_stays h1 (fun g' hg'=>stay .x g' (by intro e; cases e) (by intro e; cases e) hg'),h2⟩
 ·intro i hi hn
  obtain ⟨e,rb,ro,cp,t,cs,h1,h2,h3⟩:=h.rows i hi hn
  exact ⟨e,rb,ro,cp,t,cs,h1,(stay (.r i) (K.row i) (by intro e; cases e) (by intro e; cases e) (if_pos ⟨hi,hn⟩)).trans h2,h3⟩
theorem LayS.pushT (h:LayS N w b o S K wr) {g cap:Nat} {xs:List Value} {z:Int} (hz:z = ((S.n + K.nt:Nat):Int)) (hlen:xs.length = K.nt * 1) (hxs:∀ i,i < K.nt → xs[i]? = some (.int .i64 ((S.n + i:Nat):Int)))
  (hown:w'.ownsRow N 3 1 (.slice (some ⟨g,0,none⟩) (K.nt + 1) cap) (K.nt + 1) (xs ++ [.int .i64 z])) (hgrow:wr.grownBy w' K.vt.ownBlock) (hat:K.vt.ownBlock = some g ∨ g = wr.heap.size) (hlt:g < w'.heap.size) :
  LayS N w b o S { K with vt:=.slice (some ⟨g,0,none⟩) (K.nt + 1) cap,nt:=K.nt + 1 } (w'.setCell ⟨K.p,3,none⟩ (.slice (some ⟨g,0,none⟩) (K.nt + 1) cap)):=by
 have stay:∀ (r:Nm) (g0:Nat),r ≠ .t → r ≠ .p → K.loc S.n r = some g0 → (w'.setCell ⟨K.p,3,none⟩ (.slice (some ⟨g,0,none⟩) (K.nt + 1) cap)).heap[g0]? = wr.heap[g0]?:=fun r g0 hr hp hg=>
  (Below.heap_setCell w' _ _ g0 (h.ne_p hp hg)).trans (hgrow.block g0 (h.loc.lo r g0 hg).2 (h.ne_of (r':=.t) hr hg))
 have gp:g ≠ K.p:=by
  rcases hat with e | e
  ·exact h.ne_p (r:=.t) (by intro e; cases e) e
  ·intro e2; have:=h.tab.lt; omega
 have hpb:Blk w' K.p _ _:=h.tab.grown hgrow (h.ne_of (r:=.p) (r':=.t) (by intro e; cases e) rfl)
 refine { hN:=?_,bel:=?_,loc:=?_,tab:=?_,val:=?_,om:=?_,ot:=?_,oc:=?_,ox:=?_,rows:=?_,box:=fun g0 hg0=>(stay .b g0 (by intro e; cases e) (by intro e; cases e) hg0).trans (h.box g0 hg0) }
 ·simp only [World.setCell,Array.size_modify]; exact Nat.le_trans h.hN hgrow.size
 ·refine Below.setCell (h.bel.grown hgrow h.hN (fun k hk=>(h.loc.lo .t k hk).1)) (h.loc.lo .p _ rfl).1 _
 ·refine Locs.grow (w:=w') ?_ (by simp [World.setCell])
  refine h.loc.put (r0:=.t) (g0:=g) h.hN hgrow.size (fun g' hg'=>(Option.some.inj hg').symm) (hat.imp id (fun e=>by omega)) hlt (fun r hr=>?_)
  cases r with
  | t=>exact absurd rfl hr
  | _=>rfl
 ·exact hpb.set_ 3 _
 ·exact (stay .v K.gv (by intro e; cases e) (by intro e; cases e) rfl).trans h.val
 ·obtain ⟨ys,h1,h2⟩:=h.om
  exact ⟨ys,own_stays h1 (fun g' hg'=>stay .m g' (by intro e; cases e) (by intro e; cases e) hg'),h2⟩
 ·refine ⟨_,own_stays hown (fun g' hg'=>Below.heap_setCell w' _ _ g' ?_),fun i hi=>by
   have hi':i < K.nt + 1:=hi
   have hxl:xs.length = K.nt * 1:=hlen
   by_cases he:i = K.nt
   ·subst he
    rw [List.getElem?_append_right (by omega),show K.nt - xs.length = 0 from by omega]
    rw [hz]; rfl
   ·rw [List.getElem?_append_left (by omega)]
    exact hxs i (by omega)⟩
  obtain rfl:g = g':=Option.some.inj hg'
  exact gp
 ·obtain ⟨ys,h1,h2⟩:=h.oc
  exact ⟨ys,own_stays h1 (fun g' hg'=>stay .c g' (by intro e; cases e) (by intro e; cases e) hg'),h2⟩
 ·obtain ⟨ys,h1,h2⟩:=h.ox
  exact ⟨ys,own_stays h1 (fun g' hg'=>stay .x g' (by intro e; cases e) (by intro e; cases e) hg'),h2⟩
 ·intro i hi hn
  obtain ⟨e,rb,ro,cp,t,cs,h1,h2,h3⟩:=h.rows i hi hn
  exact ⟨e,rb,ro,cp,t,cs,h1,(stay (.r i) (K.row i) (by intro e; cases e) (by intro e; cases e) (if_pos ⟨hi,hn⟩)).trans h2,h3⟩
theorem LayS.pushC (h:LayS N w b o S K wr) {g cap:Nat} {xs:List Value}  (hlen:xs.length = K.nc * 1) (hxs:∀ i,i < K.nc → xs[i]? = some (.int .i64 (i:Int)))
  (hown:w'.ownsRow N 3 1 (.slice (some ⟨g,0,none⟩) (K.nc + 1) cap) (K.nc + 1) (xs ++ [.int .i64 (K.nc:Int)])) (hgrow:wr.grownBy w' K.vc.ownBlock) (hat:K.vc.ownBlock = some g ∨ g = wr.heap.size) (hlt:g < w'.heap.size) :
  LayS N w b o S { K with vc:=.slice (some ⟨g,0,none⟩) (K.nc + 1) cap,nc:=K.nc + 1 } (w'.setCell ⟨K.p,4,none⟩ (.slice (some ⟨g,0,none⟩) (K.nc + 1) cap)):=by
 have stay:∀ (r:Nm) (g0:Nat),r ≠ .c → r ≠ .p → K.loc S.n r = some g0 → (w'.setCell ⟨K.p,4,none⟩ (.slice (some ⟨g,0,none⟩) (K.nc + 1) cap)).heap[g0]? = wr.heap[g0]?:=fun r g0 hr hp hg=>
  (Below.heap_setCell w' _ _ g0 (h.ne_p hp hg)).trans (hgrow.block g0 (h.loc.lo r g0 hg).2 (h.ne_of (r':=.c) hr hg))
 have gp:g ≠ K.p:=by
  rcases hat with e | e
  ·exact h.ne_p (r:=.c) (by intro e; cases e) e
  ·intro e2; have:=h.tab.lt; omega
 have hpb:Blk w' K.p _ _:=h.tab.grown hgrow (h.ne_of (r:=.p) (r':=.c) (by intro e; cases e) rfl)
 refine { hN:=?_,bel:=?_,loc:=?_,tab:=?_,val:=?_,om:=?_,ot:=?_,oc:=?_,ox:=?_,rows:=?_,box:=fun g0 hg0=>(stay .b g0 (by intro e; cases e) (by intro e; cases e) hg0).trans (h.box g0 hg0) }
 ·simp only [World.setCell,Array.size_modify]; exact Nat.le_trans h.hN hgrow.size
 ·refine Below.setCell (h.bel.grown hgrow h.hN (fun k hk=>(h.loc.lo .c k hk).1)) (h.loc.lo .p _ rfl).1 _
 ·refine Locs.grow (w:=w') ?_ (by simp [World.setCell])
  refine h.loc.put (r0:=.c) (g0:=g) h.hN hgrow.size (fun g' hg'=>(Option.some.inj hg').symm) (hat.imp id (fun e=>by omega)) hlt (fun r hr=>?_)
  cases r with
  | c=>exact absurd rfl hr
  | _=>rfl
 ·exact hpb.set_ 4 _
 ·exact (stay .v K.gv (by intro e; cases e) (by intro e; cases e) rfl).trans h.val
 ·obtain ⟨ys,h1,h2⟩:=h.om
  exact ⟨ys,own_stays h1 (fun g' hg'=>stay .m g' (by intro e; cases e) (by intro e; cases e) hg'),h2⟩
 ·obtain ⟨ys,h1,h2⟩:=h.ot
  exact ⟨ys,own_stays h1 (fun g' hg'=>stay .t g' (by intro e; cases e) (by intro e; cases e) hg'),h2⟩
 ·refine ⟨_,own_stays hown (fun g' hg'=>Below.heap_setCell w' _ _ g' ?_),fun i hi=>by
   have hi':i < K.nc + 1:=hi
   have hxl:xs.length = K.nc * 1:=hlen
   by_cases he:i = K.nc
   ·subst he
    rw [List.getElem?_append_right (by omega),show K.nc - xs.length = 0 from by omega]
    rfl
   ·rw [List.getElem?_append_left (by omega)]
    exact hxs i (by omega)⟩
  obtain rfl:g = g':=Option.some.inj hg'
  exact gp
 ·obtain ⟨ys,h1,h2⟩:=h.ox
  exact ⟨ys,own_stays h1 (fun g' hg'=>stay .x g' (by intro e; cases e) (by intro e; cases e) hg'),h2⟩
 ·intro i hi hn
  obtain ⟨e,rb,ro,cp,t,cs,h1,h2,h3⟩:=h.rows i hi hn
  exact ⟨e,rb,ro,cp,t,cs,h1,(stay (.r i) (K.row i) (by intro e; cases e) (by intro e; cases e) (if_pos ⟨hi,hn⟩)).trans h2,h3⟩
theorem LayS.pushX (h:LayS N w b o S K wr) {g cap:Nat} {xs:List Value} {ax:Option Addr} {kx:Nat} (hax:K.ra K.nx = ax) (hkx:K.rk K.nx = kx) (hlen:xs.length = K.nx * 1) (hxs:∀ i,i < K.nx → xs[i]? = some (.slice (K.ra i) S.n (K.rk i)))
  (hown:w'.ownsRow N 61 1 (.slice (some ⟨g,0,none⟩) (K.nx + 1) cap) (K.nx + 1) (xs ++ [.slice ax S.n kx])) (hgrow:wr.grownBy w' K.vx.ownBlock) (hat:K.vx.ownBlock = some g ∨ g = wr.heap.size) (hlt:g < w'.heap.size) :
  LayS N w b o S { K with vx:=.slice (some ⟨g,0,none⟩) (K.nx + 1) cap,nx:=K.nx + 1 } (w'.setCell ⟨K.p,5,none⟩ (.slice (some ⟨g,0,none⟩) (K.nx + 1) cap)):=by
 have stay:∀ (r:Nm) (g0:Nat),r ≠ .x → r ≠ .p → K.loc S.n r = some g0 → (w'.setCell ⟨K.p,5,none⟩ (.slice (some ⟨g,0,none⟩) (K.nx + 1) cap)).heap[g0]? = wr.heap[g0]?:=fun r g0 hr hp hg=>
  (Below.heap_setCell w' _ _ g0 (h.ne_p hp hg)).trans (hgrow.block g0 (h.loc.lo r g0 hg).2 (h.ne_of (r':=.x) hr hg))
 have gp:g ≠ K.p:=by
  rcases hat with e | e
  ·exact h.ne_p (r:=.x) (by intro e; cases e) e
  ·intro e2; have:=h.tab.lt; omega
 have hpb:Blk w' K.p _ _:=h.tab.grown hgrow (h.ne_of (r:=.p) (r':=.x) (by intro e; cases e) rfl)
 refine { hN:=?_,bel:=?_,loc:=?_,tab:=?_,val:=?_,om:=?_,ot:=?_,oc:=?_,ox:=?_,rows:=?_,box:=fun g0 hg0=>(stay .b g0 (by intro e; cases e) (by intro e; cases e) hg0).trans (h.box g0 hg0) }
 ·simp only [World.setCell,Array.size_modify]; exact Nat.le_trans h.hN hgrow.size
 ·refine Below.setCell (h.bel.grown hgrow h.hN (fun k hk=>(h.loc.lo .x k hk).1)) (h.loc.lo .p _ rfl).1 _
 ·refine Locs.grow (w:=w') ?_ (by simp [World.setCell])
  refine h.loc.put (r0:=.x) (g0:=g) h.hN hgrow.size (fun g' hg'=>(Option.some.inj hg').symm) (hat.imp id (fun e=>by omega)) hlt (fun r hr=>?_)
  cases r with
  | x=>exact absurd rfl hr
  | _=>rfl
 ·exact hpb.set_ 5 _
 ·exact (stay .v K.gv (by intro e; cases e) (by intro e; cases e) rfl).trans h.val
 ·obtain ⟨ys,h1,h2⟩:=h.om
  exact ⟨ys,own_stays h1 (fun g' hg'=>stay .m g' (by intro e; cases e) (by intro e; cases e) hg'),h2⟩
 ·obtain ⟨ys,h1,h2⟩:=h.ot
  exact ⟨ys,own_stays h1 (fun g' hg'=>stay .t g' (by intro e; cases e) (by intro e; cases e) hg'),h2⟩
 ·obtain ⟨ys,h1,h2⟩:=h.oc
  exact ⟨ys,own_stays h1 (fun g' hg'=>stay .c g' (by intro e; cases e) (by intro e; cases e) hg'),h2⟩
 ·refine ⟨_,own_stays hown (fun g' hg'=>Below.heap_setCell w' _ _ g' ?_),fun i hi=>by
   have hi':i < K.nx + 1:=hi
   have hxl:xs.length = K.nx * 1:=hlen
   by_cases he:i = K.nx
   ·subst he
    rw [List.getElem?_append_right (by omega),show K.nx - xs.length = 0 from by omega]
    rw [hax,hkx]; rfl
   ·rw [List.getElem?_append_left (by omega)]
    exact hxs i (by omega)⟩
  obtain rfl:g = g':=Option.some.inj hg'
  exact gp
 ·intro i hi hn
  obtain ⟨e,rb,ro,cp,t,cs,h1,h2,h3⟩:=h.rows i hi hn
  exact ⟨e,rb,ro,cp,t,cs,h1,(stay (.r i) (K.row i) (by intro e; cases e) (by intro e; cases e) (if_pos ⟨hi,hn⟩)).trans h2,h3⟩
theorem LayS.pushRow (h:LayS N w b o S K wr) (hN:w.heap.size = N) {W w':World} (hb:Below wr.heap.size wr W) {j:Nat} (hnx:K.nx = j) (hnr:K.nr = j) {ra ca:Option Addr} {rk ck:Nat} (h0:w.cell? ⟨b,o + j * 5,none⟩ = some (.slice ra S.n rk))
  (hs:0 < S.n → ∃ rb ro,ra = some ⟨rb,ro,none⟩ ∧ ∀ c,c < S.n → FAt w rb (ro + c * 4) (S.A j c))
  (hcl:0 < S.n → ∃ g b' o' t cs,ra = some ⟨b',o',none⟩ ∧ ca = some ⟨g,0,none⟩ ∧ wr.heap.size ≤ g ∧ Blk W g t cs ∧ ∀ i,i < S.n * 4 → cs[i]? = wr.cell? ⟨b',o' + i,none⟩)
  {g cap:Nat} {xs:List Value} (hlen:xs.length = j * 1) (hxs:∀ i,i < K.nx → xs[i]? = some (.slice (K.ra i) S.n (K.rk i)))
  (hown:w'.ownsRow N 61 1 (.slice (some ⟨g,0,none⟩) (j + 1) cap) (j + 1) (xs ++ [.slice ca S.n ck])) (hgrow:W.grownBy w' K.vx.ownBlock) (hat:K.vx.ownBlock = some g ∨ g = W.heap.size) (hlt:g < w'.heap.size) :
  ∃ K':Lk,(K'.p = K.p ∧ K'.nc = K.nc ∧ K'.nm = K.nm ∧ K'.nt = K.nt ∧ K'.nx = j + 1 ∧ K'.nr = j + 1) ∧ LayS N w b o S K' (w'.setCell ⟨K.p,5,none⟩ (.slice (some ⟨g,0,none⟩) (j + 1) cap)):=by
 subst hnx
 have hg:∃ gr,0 < S.n → ca = some ⟨gr,0,none⟩ ∧ wr.heap.size ≤ gr ∧ ∃ rb ro cap t cs,w.cell? ⟨b,o + K.nr * 5,none⟩ = some (.slice (some ⟨rb,ro,none⟩) S.n cap) ∧ Blk W gr t cs ∧ ∀ k,k < S.n * 4 → cs[k]? = w.cell? ⟨rb,ro + k,none⟩:=by
  rcases Nat.eq_zero_or_pos S.n with hz | hz
  ·exact ⟨0,fun h=>by omega⟩
  ·obtain ⟨gr,b',o',t,cs,e1,e2,h1,h2,h3⟩:=hcl hz
   obtain ⟨rb,ro,e3,h4⟩:=hs hz
   have e4:=e1.symm.trans e3
   injection e4 with e4
   injection e4 with e5 e6
   subst e5 e6
   refine ⟨gr,fun _=>⟨e2,h1,b',o',rk,t,cs,by rw [hnr,h0,e1],h2,fun k hk=>?_⟩⟩
   rw [h3 k hk]
   obtain ⟨_,_,_,_,_,_,_,_,c0,c1,c2,c3,-⟩:=h4 (k / 4) (by omega)
   have key:∀ d,d < 4 → ∃ u,w.cell? ⟨b',o' + k / 4 * 4 + d,none⟩ = some u:=fun d hd=>by
    match d,hd with
    | 0,_=>exact ⟨_,c0⟩
    | 1,_=>exact ⟨_,c1⟩
    | 2,_=>exact ⟨_,c2⟩
    | 3,_=>exact ⟨_,c3⟩
   obtain ⟨u,hu⟩:=key (k % 4) (by omega)
   rw [show o' + k / 4 * 4 + k % 4 = o' + k from by omega] at hu
   rw [hu,cellB hu h.bel (Nat.le_of_eq hN)]
 obtain ⟨gr,hg⟩:=hg
 have h2:=h.addRow (k:=ck) hb hnr.symm hg
 have h3:=h2.pushX (ax:=ca) (kx:=ck) (by show put K.ra K.nr ca K.nx = ca; rw [hnr,put_at]) (by show put K.rk K.nr ck K.nx = ck; rw [hnr,put_at]) hlen
  (fun i hi=>by
   have hi':i < K.nx:=hi
   show xs[i]? = some (.slice (put K.ra K.nr ca i) S.n (put K.rk K.nr ck i))
   rw [put_else _ _ (by omega),put_else _ _ (by omega)]
   exact hxs i hi') hown hgrow hat hlt
 refine ⟨_,?_,h3⟩
 exact ⟨rfl,rfl,rfl,rfl,rfl,by show K.nr + 1 = K.nx + 1; omega⟩
theorem src_of {f:Nat → Rat} {n:Nat} {ra:Option Addr} (hs:0 < n → ∃ rb ro,ra = some ⟨rb,ro,none⟩ ∧ ∀ c,c < n → FAt w rb (ro + c * 4) (f c)) (hb:Below w.heap.size w wr):0 < n → ∃ b o,ra = some ⟨b,o,none⟩ ∧ ∀ i,i < n * 4 → ∃ u,wr.cell? ⟨b,o + i,none⟩ = some u ∧ u.oneCell' = true:=fun hn=>by
 obtain ⟨rb,ro,e,h⟩:=hs hn
 refine ⟨rb,ro,e,fun i hi=>?_⟩
 obtain ⟨_,_,_,_,_,_,_,_,c0,c1,c2,c3,-⟩:=(h (i / 4) (by omega)).below hb (Nat.le_refl _)
 have key:∀ d,d < 4 → ∃ u,wr.cell? ⟨rb,ro + i / 4 * 4 + d,none⟩ = some u ∧ u.oneCell' = true:=fun d hd=>by
  match d,hd with
  | 0,_=>exact ⟨_,c0,rfl⟩
  | 1,_=>exact ⟨_,c1,rfl⟩
  | 2,_=>exact ⟨_,c2,rfl⟩
  | 3,_=>exact ⟨_,c3,rfl⟩
 have h1:=key (i % 4) (by omega)
 rwa [show ro + i / 4 * 4 + i % 4 = ro + i from by omega] at h1

theorem FAt.copy {w wr:World} {g g' o o':Nat} {q:Rat} (h:FAt w g o q) (hb:Below w.heap.size w wr) (hc:∀ d,d < 4 → wr.cell? ⟨g',o' + d,none⟩ = w.cell? ⟨g,o + d,none⟩):FAt wr g' o' q:=by
 obtain ⟨n,a,l,k,m,b,i,j,h0,h1,h2,h3,h4⟩:=h
 exact ⟨n,a,l,k,m,b,i,j,(hc 0 (by decide)).trans h0,(hc 1 (by decide)).trans h1,(hc 2 (by decide)).trans h2,(hc 3 (by decide)).trans h3,h4.below hb (Nat.le_refl _)⟩
theorem own_part {w:World} {N:Nat} {e:TypeId} {size n:Nat} {v:Value} {xs:List Value} (h:w.ownsRow N e size v n xs):∃ a g c,v = .slice a n c ∧ (0 < n → a = some ⟨g,0,none⟩ ∧ v.ownBlock = some g) ∧ (∀ i,i < n * size → w.cell? ⟨g,i,none⟩ = xs[i]?) ∧ (0 < n → ∀ i,w.frozen? ⟨g,i,none⟩ = false):=by
 rcases h.2 with ⟨rfl,h0⟩ | ⟨g,cap,cur,rfl,hg,h2,_,_,_,ht⟩
 ·exact ⟨none,0,0,by rw [h0],fun h=>by omega,fun i hi=>by rw [h0] at hi; omega,fun h=>by omega⟩
 ·refine ⟨some ⟨g,0,none⟩,g,cap,rfl,fun _=>⟨rfl,rfl⟩,fun i hi=>?_,fun _=>Blk.frozen (t:=e) (cs:=cur) h2⟩
  rw [Blk.cell (t:=e) (cs:=cur) h2,← ht,List.getElem?_take_of_lt hi]
  simp
def LayPost (w:World) (S:Sys) (e:Ending) (w':World):Prop:=∃ L:Spots,L.av = some ⟨L.gv,0,none⟩ ∧ L.kv = S.n + S.m ∧ e = .returned (.pointer (some ⟨L.p,0,none⟩)) ∧ Below w.heap.size w w' ∧ TabV w' S S.first L ∧ (0 < S.n → 0 < S.m → TabM w.heap.size w' S L)
theorem LayS.done {w wr:World} {b o:Nat} {S:Sys} {K:Lk} (h:LayS w.heap.size w b o S K wr) (h1:K.nm = S.m) (h2:K.nt = S.m) (h3:K.nc = S.n) (h4:K.nx = S.m) (h5:K.nr = S.m) (hR:RowsV w b o S) {e:Ending} (he:e = .returned (.pointer (some ⟨K.p,0,none⟩))):LayPost w S e wr:=by
 obtain ⟨xm,m1,m2⟩:=h.om
 obtain ⟨xt,t1,t2⟩:=h.ot
 obtain ⟨xc,c1,c2⟩:=h.oc
 obtain ⟨xx,x1,x2⟩:=h.ox
 rw [h1] at m1 m2
 rw [h2] at t1 t2
 rw [h3] at c1 c2
 rw [h4] at x1 x2
 have rows:=h.rows
 rw [h5] at rows
 have hl:=h.loc
 have tab:=h.tab
 obtain ⟨am,gm,km,em,m3,m4,m5⟩:=own_part m1
 obtain ⟨at_,gt,kt,et,t3,t4,t5⟩:=own_part t1
 obtain ⟨ac,gc,kc,ec,c3,c4,c5⟩:=own_part c1
 obtain ⟨ax,gx,kx,ex,x3,x4,x5⟩:=own_part x1
 have hlr:∀ l,l < S.m → 0 < S.n → K.loc S.n (.r l) = some (K.row l):=fun l hl hn=>if_pos ⟨by omega,hn⟩
 have ne:∀ (r r':Nm) (g g':Nat),r ≠ r' → K.loc S.n r = some g → K.loc S.n r' = some g' → g ≠ g':=fun r r' g g' hr e1 e2 e=>hr (hl.inj r r' g e1 (by rw [e]; exact e2))
 rw [em,et,ec,ex] at tab
 have bel:=h.bel
 refine ⟨⟨K.p,gm,K.gv,gt,gc,gx,am,some ⟨K.gv,0,none⟩,at_,ac,ax,km,S.n + S.m,kt,kc,kx,K.row,K.ra,K.rk⟩,rfl,rfl,he,bel,?_,fun hn hm=>?_⟩
 ·refine { c0:=tab.cell 0,c1:=tab.cell 1,c2:=tab.cell 2,c3:=tab.cell 3,c4:=tab.cell 4,c5:=tab.cell 5,am:=fun h=>(m3 h).1,av:=fun _=>rfl,at_:=fun h=>(t3 h).1,ac:=fun h=>(c3 h).1,ax:=fun h=>(x3 h).1,ra:=fun l hl hn=>(rows l hl hn).1,most:=fun i hi=>?_,val:=fun v hv=>FAt.made h.val hv,told:=fun l hl=>?_,col:=fun c hc=>?_,rows:=fun l hl=>?_,T:=fun l c hl hc=>?_ }
  ·obtain ⟨_,_,_,_,_,hq⟩:=hR i hi
   exact hq.copy bel (fun d hd=>(m4 _ (by omega)).trans (m2 i d hi hd))
  ·exact (t4 l (by omega)).trans (t2 l hl)
  ·exact (c4 c (by omega)).trans (c2 c hc)
  ·exact (x4 l (by omega)).trans (x2 l hl)
  ·obtain ⟨_,rb,ro,cap,t,cs,g1,g2,g3⟩:=rows l hl (by omega)
   obtain ⟨ra,rk,q1,_,q2,_⟩:=hR l hl
   obtain ⟨rb',ro',rfl,q3⟩:=q2 (by omega)
   have e1:=q1.symm.trans g1
   injection e1 with e1
   injection e1 with e1
   injection e1 with e1
   injection e1 with e1 e2
   subst e1 e2
   exact (q3 c hc).copy bel (fun d hd=>by rw [g2.cell,g3 _ (by omega),Nat.add_assoc])
 ·have lm:=(m3 hm).2
  have lt:=(t3 hm).2
  have lc:=(c3 hn).2
  have lx:=(x3 hm).2
  have lp:K.loc S.n .p = some K.p:=rfl
  have lv:K.loc S.n .v = some K.gv:=rfl
  exact {
   fv:=h.val.frozen,ft:=t5 hm,fc:=c5 hn,fr:=fun l hl i=>by
    obtain ⟨_,_,_,_,_,_,_,g2,_⟩:=rows l hl hn
    exact g2.frozen i
   bv:=(hl.lo .v _ lv).1,bt:=(hl.lo .t _ lt).1,bc:=(hl.lo .c _ lc).1,br:=fun l h'=>(hl.lo (.r l) _ (hlr l h' hn)).1
   pv:=ne .p .v _ _ (by intro e; cases e) lp lv,pt:=ne .p .t _ _ (by intro e; cases e) lp lt,pc:=ne .p .c _ _ (by intro e; cases e) lp lc,pr:=fun l h'=>ne .p (.r l) _ _ (by intro e; cases e) lp (hlr l h' hn)
   mv:=ne .m .v _ _ (by intro e; cases e) lm lv,mt:=ne .m .t _ _ (by intro e; cases e) lm lt,mc:=ne .m .c _ _ (by intro e; cases e) lm lc,mr:=fun l h'=>ne .m (.r l) _ _ (by intro e; cases e) lm (hlr l h' hn)
   vt:=ne .v .t _ _ (by intro e; cases e) lv lt,vc:=ne .v .c _ _ (by intro e; cases e) lv lc,vx:=ne .v .x _ _ (by intro e; cases e) lv lx,vr:=fun l h'=>ne .v (.r l) _ _ (by intro e; cases e) lv (hlr l h' hn)
   tc:=ne .t .c _ _ (by intro e; cases e) lt lc,tx:=ne .t .x _ _ (by intro e; cases e) lt lx,tr:=fun l h'=>ne .t (.r l) _ _ (by intro e; cases e) lt (hlr l h' hn)
   cx:=ne .c .x _ _ (by intro e; cases e) lc lx,cr:=fun l h'=>ne .c (.r l) _ _ (by intro e; cases e) lc (hlr l h' hn)
   xr:=fun l h'=>ne .x (.r l) _ _ (by intro e; cases e) lx (hlr l h' hn)
   rr:=fun l l' h1 h2 e=>by
    have e:K.row l = K.row l':=e
    have:=hl.inj (.r l) (.r l') _ (hlr l h1 hn) (by rw [e]; exact hlr l' h2 hn)
    injection this }

end

def ClonePost (w:World) (n:Nat) (a:Option Addr) (e:Ending) (w':World):Prop:=
 Below w.heap.size w w' ∧ ∃ a' k',e = .returned (.slice a' n k') ∧ (0 < n → ∃ g b o t cs,a = some ⟨b,o,none⟩ ∧ a' = some ⟨g,0,none⟩ ∧ w.heap.size ≤ g ∧ Blk w' g t cs ∧ ∀ i,i < n * 4 → cs[i]? = w.cell? ⟨b,o + i,none⟩)

set_option maxRecDepth 100000 in
set_option maxHeartbeats 1600000 in
theorem clone_any {n cap:Nat} {a:Option Addr} (w:World) (hf:Fit a n cap) (hn:n ≤ 1000) (hc:0 < n → ∃ b o,a = some ⟨b,o,none⟩ ∧ ∀ i,i < n * 4 → ∃ u,w.cell? ⟨b,o + i,none⟩ = some u ∧ u.oneCell' = true) :
  Calls Try.prog 71 #[.slice a n cap] w (ClonePost w n a):=by
 generalize hP:ClonePost w n a = Post
 have HP:=hide hP
 clear hP
 have heq:=fun (a:Option Addr) (n c:Nat)=>Lib.run_eql_slice_nil (P:=Try.prog) w 61 71 a n c 0 0 Try.underlying61
 cases a with
 | none=>
  obtain ⟨h1,h2⟩:=hf
  obtain rfl:cap = 0:=h2 rfl
  obtain rfl:n = 0:=by omega
  clear hc h1 h2
  go_enter Try.func71,Try.ntmps71
  go_wp2_with fail
  rw [← HP.out]
  exact ⟨Below.refl _ _,none,0,rfl,fun h=>absurd h (Nat.lt_irrefl _)⟩
 | some ad=>
  have HF:=hide hf
  have HC:=hide hc
  clear hf hc
  obtain ⟨i0,hi0,hz0,hz1,hz2⟩:=info_parts infoF
  obtain ⟨news,hnl,hnw⟩:∃ news:List Value,news.length = n * 4 ∧ ∀ j u,news[j]? = some u → w.cell? (ad.add j) = some u ∧ u.oneCell' = true:=by
   rcases Nat.eq_zero_or_pos n with h0 | h0
   ·exact ⟨[],by simp [h0],fun j u h=>by simp at h⟩
   ·obtain ⟨b,o,e,hu⟩:=HC.out h0
    obtain rfl:=Option.some.inj e
    obtain ⟨l,hl,hl2⟩:=exists_list (p:=fun i u=>w.cell? ⟨b,o + i,none⟩ = some u ∧ u.oneCell' = true) (n * 4) hu
    refine ⟨l,hl,fun j u hj=>?_⟩
    have hlt:j < l.length:=(List.getElem?_eq_some_iff.1 hj).1
    rw [List.getElem?_eq_getElem hlt] at hj
    obtain rfl:=Option.some.inj hj
    rw [add_plain]
    exact hl2 j hlt
  go_enter Try.func71,Try.ntmps71
  go_upto_region 3 with (fail)
  go_wp2_with (at_builtin; refine wpList_append_own_at _ rfl (.tmp 5) (.tmp 6) 61 rfl w.heap.size 71 i0 zeroF 4 64 Try.underlying61 hi0 hz0 hz1 hz2 rfl (by decide) (.slice (some ⟨w.heap.size,0,none⟩) 0 0) 0 [] rfl ?c1 ad n cap news rfl hnl ?c2 ?c3 ?c4 ?c5 ?c6 ?_)
  case c1=>exact World.ownsRow_made w #[] 0 (Nat.le_refl _) (by unfold maxLen; omega) rfl
  case c2=>
   intro j u h
   obtain ⟨h1,_⟩:=hnw j u h
   exact cellB h1 ((Below.refl w.heap.size w).alloc (Nat.le_refl _) _) (Nat.le_refl _)
  case c3=>
   intro u hu
   obtain ⟨j,hj,rfl⟩:=List.mem_iff_getElem.1 hu
   exact (hnw j _ (List.getElem?_eq_getElem hj)).2
  case c4=>unfold maxLen; omega
  case c5=>omega
  case c6=>simp
  intro v' w1 hown hgrow _ hat
  obtain ⟨a',k',rfl⟩:=own_slice hown
  have hB:Below w.heap.size w w1:=((Below.refl w.heap.size w).alloc (Nat.le_refl _) _).grown hgrow (by simp) (fun k hk=>by obtain rfl:=Option.some.inj hk; exact Nat.le_refl _)
  have HO:=hide hown
  clear hown hgrow hat
  go_wp2_with fail
  rw [← HP.out]
  refine ⟨hB,a',k',rfl,fun h0=>?_⟩
  obtain ⟨g,cs,e,hg,hblk,hcs⟩:=own_cells HO.out h0
  obtain ⟨b,o,e2,_⟩:=HC.out h0
  obtain rfl:=Option.some.inj e2
  refine ⟨g,b,o,_,cs,rfl,e,hg,hblk,fun i hi=>?_⟩
  have hi':i < news.length:=by omega
  rw [hcs i hi,List.getElem?_eq_getElem hi']
  have:=(hnw i _ (List.getElem?_eq_getElem hi')).1
  rw [add_plain] at this
  exact this.symm

def Calm (w:World) (g:Nat):Prop:=∀ i z,w.cell? ⟨g,i,none⟩ ≠ some (.int .u32 z)
def NoU (u:Value):Prop:=∀ z,u ≠ .int .u32 z
theorem NoU.bool (b:Bool):NoU (.bool b):=fun z e=>by cases e
theorem NoU.slice (a:Option Addr) (l k:Nat):NoU (.slice a l k):=fun z e=>by cases e
theorem Calm.of {w:World} {g:Nat} {t:TypeId} {cs:Array Value} (h:Blk w g t cs) (hu:∀ u,u ∈ cs → NoU u):Calm w g:=fun i z e=>by
 rw [h.cell] at e
 exact hu _ (Array.mem_of_getElem? e) z rfl
theorem Calm.blk {w:World} {g:Nat} {t:TypeId} {cs:Array Value} (h:Blk w g t cs) (hc:Calm w g):∀ u,u ∈ cs → NoU u:=fun u hu z e=>by
 subst e
 obtain ⟨i,hi⟩:=Array.mem_iff_getElem?.1 hu
 exact hc i z (by rw [h.cell,hi])
theorem Calm.below {w w':World} {g:Nat} (h:Calm w g) (hb:Below w.heap.size w w') (hg:g < w.heap.size):Calm w' g:=fun i z e=>by
 have h1:w'.cell? ⟨g,i,none⟩ = w.cell? ⟨g,i,none⟩:=hb.cell hg
 rw [h1] at e
 exact h i z e
section
variable {w w':World} {row:Option Nat} {v:Value} {q:Rat} {z:Int}
theorem IntV.grown (h:IntV w v z) (hg:w.grownBy w' row) (hc:∀ g,row = some g → Calm w g):IntV w' v z:=by
 obtain ⟨a,cap,e,hf,hd⟩:=h
 refine ⟨a,cap,e,hf,fun hn=>?_⟩
 obtain ⟨b,off,e,hcc⟩:=hd hn
 refine ⟨b,off,e,fun j hj=>?_⟩
 exact hg.cell (hcc j hj) (fun e=>hc b e.symm _ _ (hcc j hj))
theorem FracV.grown (h:FracV w v q) (hg:w.grownBy w' row) (hc:∀ g,row = some g → Calm w g):FracV w' v q:=by
 obtain ⟨_,_,_,_,_,_,_,_,e,h1,h2⟩:=h
 exact ⟨_,_,_,_,_,_,_,_,e,h1.grown hg hc,h2.grown hg hc⟩
theorem FAt.grown {g o:Nat} (h:FAt w g o q) (hg:w.grownBy w' row) (hne:some g ≠ row) (hc:∀ g,row = some g → Calm w g):FAt w' g o q:=by
 obtain ⟨n,a,l,k,m,b,i,j,h0,h1,h2,h3,h4⟩:=h
 exact ⟨n,a,l,k,m,b,i,j,hg.cell h0 hne,hg.cell h1 hne,hg.cell h2 hne,hg.cell h3 hne,h4.grown hg hc⟩
theorem FAt.moved {g o g' o':Nat} (h:FAt w g o q) (hg:w.grownBy w' row) (hc:∀ g,row = some g → Calm w g) (he:∀ d u,d < 4 → w.cell? ⟨g,o + d,none⟩ = some u → w'.cell? ⟨g',o' + d,none⟩ = some u):FAt w' g' o' q:=by
 obtain ⟨n,a,l,k,m,b,i,j,h0,h1,h2,h3,h4⟩:=h
 exact ⟨n,a,l,k,m,b,i,j,he 0 _ (by decide) h0,he 1 _ (by decide) h1,he 2 _ (by decide) h2,he 3 _ (by decide) h3,h4.grown hg hc⟩
end
theorem mem_zeroCells {z:Array Value} {n:Nat} {u:Value} (hz:0 < z.size) (h:u ∈ Builtin.zeroCells z n):u ∈ z:=by
 unfold Builtin.zeroCells at h
 obtain ⟨i,_,rfl⟩:=Array.mem_map.1 h
 have hi:i % z.size < z.size:=Nat.mod_lt _ hz
 rw [getElem!_pos z (i % z.size) hi]
 exact Array.getElem_mem hi

section
variable {P:Program} (w:World)
theorem run_append_calm (base:Nat) (t ty e:TypeId) (i:TypeInfo) (z:Value) (size bytes:Nat) (ht:P.underlying t = some (.slice e)) (hi:P.info? e = some i) (hz:i.zero = some z)
  (hsize:i.size = size) (hby:i.bytes = bytes) (hzs:z.cells.size = size) (hsz:0 < size)
  (v:Value) (n:Nat) (xs:List Value) (hown:w.ownsRow base e size v n xs)
  (ad:Addr) (m c:Nat) (news:List Value) (hl:news.length = m * size) (hnews:∀ j u,news[j]? = some u → w.cell? (ad.add j) = some u) (h1:∀ u ∈ news,u.oneCell' = true)
  (h63:n + m ≤ maxLen) (hbytes:(n + m) * bytes ≤ 140737488355328) (hbase:base ≤ w.heap.size)
  (hcv:∀ g,v.ownBlock = some g → Calm w g) (hcn:∀ u ∈ news,NoU u) (hcz:∀ u ∈ z.cells,NoU u) :
  ∃ v' w',(Builtin.append_ #[t,t] ty #[v,.slice (some ad) m c]).run P w = .ok v' w' ∧ w'.ownsRow base e size v' (n + m) (xs ++ news) ∧ w.grownBy w' v.ownBlock ∧ (v'.ownBlock = v.ownBlock ∨ v'.ownBlock = some w.heap.size) ∧ ∀ g,v'.ownBlock = some g → Calm w' g:=by
 obtain ⟨v',w',hr,h2,h3,h4,h5⟩:=run_append_own_at (P:=P) w base t ty e i z size bytes ht hi hz hsize hby hzs hsz v n xs hown ad m c news hl hnews h1 h63 hbytes hbase
 refine ⟨v',w',hr,h2,h3,h5,?_⟩
 subst hsize
 have hmax:n + m ≤ 9223372036854775807:=by simp only [maxLen] at h63; omega
 have hnew:∀ (W:World) (ys:List Value) (k:Nat),(∀ u ∈ ys,NoU u) → Calm (W.alloc (.cells (ys.toArray ++ news.toArray ++ Builtin.zeroCells z.cells k) e)) W.heap.size:=fun W ys k hy=>by
  refine Calm.of (Blk.new W e _) (fun u hu=>?_)
  rw [Array.mem_append,Array.mem_append] at hu
  rcases hu with (hu | hu) | hu
  ·exact hy u (by simpa using hu)
  ·exact hcn u (by simpa using hu)
  ·exact hcz u (mem_zeroCells (by omega) hu)
 rcases hown.2 with ⟨rfl,rfl⟩ | ⟨g,cap,cur,rfl,hbg,hg,hnc,hcm,hcs,htake⟩
 ·by_cases hm:m = 0
  ·rw [h4.2 ⟨rfl,hm⟩]
   intro g hg
   cases hg
  ·have hr2:=run_append_nil (P:=P) w t ty e i z ht hi hz ad m c news hl hnews (by omega) (by omega) (by rw [hby]; have hb:=hbytes; simp only [Nat.zero_add] at hb; omega)
   rw [hr] at hr2
   injection hr2 with e1 e2
   subst e1 e2
   intro g hg
   obtain rfl:=Option.some.inj hg
   have:=hnew w.drew [] (grownCap w m 0 e - m) (fun u hu=>by cases hu)
   simpa using this
 ·have hxs:∀ u ∈ xs,NoU u:=fun u hu=>by
   rw [← htake] at hu
   have hm:=List.mem_of_mem_take hu
   exact Calm.blk (t:=e) (cs:=cur) hg (hcv g rfl) u (by simpa using hm)
  by_cases hroom:n + m ≤ cap
  ·have hfit:n * i.size + news.length ≤ cur.size:=by rw [hl,hcs,← Nat.add_mul]; exact Nat.mul_le_mul_right _ hroom
   have hr2:=run_append_room (P:=P) w t ty e i ht hi g n cap cur hg ad m c news hl hnews h1 hroom hfit
   rw [hr] at hr2
   injection hr2 with e1 e2
   subst e1 e2
   intro g' hg'
   obtain rfl:=Option.some.inj hg'
   refine Calm.of (t:=e) (setRow_heap w g cur _ e _ hg) (fun u hu=>?_)
   have hcur:=Calm.blk (t:=e) (cs:=cur) hg (hcv g rfl)
   simp only [List.mem_toArray,List.mem_append] at hu
   rcases hu with (hu | hu) | hu
   ·exact hcur u (by simpa using List.mem_of_mem_take hu)
   ·exact hcn u hu
   ·exact hcur u (by simpa using List.mem_of_mem_drop hu)
  ·have holds:∀ j u,xs[j]? = some u → w.cell? ((⟨g,0,none⟩:Addr).add j) = some u:=hown.cells (g:=g) rfl
   have hr2:=run_append_grow (P:=P) w t ty e i z ht hi hz ⟨g,0,none⟩ n cap xs hown.1 holds ad m c news hl hnews (by omega) (by omega) (growslice_fits (by omega) (by rw [hby]; exact hbytes))
   rw [hr] at hr2
   injection hr2 with e1 e2
   subst e1 e2
   intro g' hg'
   obtain rfl:=Option.some.inj hg'
   exact hnew w.drew xs (grownCap w (n + m) cap e - (n + m)) hxs

theorem step_append_calm {ops:Array Oper} {o:Oper} {a:Act} {K:Act → World → Prop} {Q:Exit → Act → World → Prop} {E:Prop} (hgd:o.guard = none) (s x:Operand) (t:TypeId)
  (ho:o.op = .call { callee:=.builtin .append,args:=#[s,x],argTypes:=#[t,t] })
  (base:Nat) (e:TypeId) (i:TypeInfo) (z:Value) (size bytes:Nat) (ht:P.underlying t = some (.slice e)) (hi:P.info? e = some i) (hz:i.zero = some z)
  (hsize:i.size = size) (hby:i.bytes = bytes) (hzs:z.cells.size = size) (hsz:0 < size)
  (v:Value) (n:Nat) (xs:List Value) (hs:a.eval s = v) (hown:w.ownsRow base e size v n xs)
  (ad:Addr) (m c:Nat) (news:List Value) (hx:a.eval x = .slice (some ad) m c) (hl:news.length = m * size) (hnews:∀ j u,news[j]? = some u → w.cell? (ad.add j) = some u) (h1:∀ u ∈ news,u.oneCell' = true)
  (h63:n + m ≤ maxLen) (hbytes:(n + m) * bytes ≤ 140737488355328) (hbase:base ≤ w.heap.size)
  (hcv:∀ g,v.ownBlock = some g → Calm w g) (hcn:∀ u ∈ news,NoU u) (hcz:∀ u ∈ z.cells,NoU u)
  (h:∀ v' w',w'.ownsRow base e size v' (n + m) (xs ++ news) → w.grownBy w' v.ownBlock → (v'.ownBlock = v.ownBlock ∨ v'.ownBlock = some w.heap.size) → (∀ g,v'.ownBlock = some g → Calm w' g) → K (a.put o.dst v') w') :
  if Region.wanted o (yielded ops a.tmps) = true then Oper.wp P o a w K Q else E:=by
 have hw:Region.wanted o (yielded ops a.tmps) = true:=by simp [Region.wanted,hgd]
 rw [if_pos hw]
 obtain ⟨v',w',hr,h2,h3,h4,h5⟩:=run_append_calm (P:=P) w base t o.type e i z size bytes ht hi hz hsize hby hzs hsz v n xs hown ad m c news hl hnews h1 h63 hbytes hbase hcv hcn hcz
 unfold Oper.wp execOp
 simp only [ho,resolve,invoke,builtin,Sem.run_bind,Sem.run_pure,Result.andThen_ok,List.map_toArray,List.map_cons,List.map_nil,hs,hx,hr]
 exact h v' w' h2 h3 h4 h5
theorem wpList_append_calm {ops:Array Oper} {rest:List Oper} {o:Oper} {a:Act} {Q:Exit → Act → World → Prop} (hgd:o.guard = none) (s x:Operand) (t:TypeId)
  (ho:o.op = .call { callee:=.builtin .append,args:=#[s,x],argTypes:=#[t,t] })
  (base:Nat) (e:TypeId) (i:TypeInfo) (z:Value) (size bytes:Nat) (ht:P.underlying t = some (.slice e)) (hi:P.info? e = some i) (hz:i.zero = some z)
  (hsize:i.size = size) (hby:i.bytes = bytes) (hzs:z.cells.size = size) (hsz:0 < size)
  (v:Value) (n:Nat) (xs:List Value) (hs:a.eval s = v) (hown:w.ownsRow base e size v n xs)
  (ad:Addr) (m c:Nat) (news:List Value) (hx:a.eval x = .slice (some ad) m c) (hl:news.length = m * size) (hnews:∀ j u,news[j]? = some u → w.cell? (ad.add j) = some u) (h1:∀ u ∈ news,u.oneCell' = true)
  (h63:n + m ≤ maxLen) (hbytes:(n + m) * bytes ≤ 140737488355328) (hbase:base ≤ w.heap.size)
  (hcv:∀ g,v.ownBlock = some g → Calm w g) (hcn:∀ u ∈ news,NoU u) (hcz:∀ u ∈ z.cells,NoU u)
  (h:∀ v' w',w'.ownsRow base e size v' (n + m) (xs ++ news) → w.grownBy w' v.ownBlock → (v'.ownBlock = v.ownBlock ∨ v'.ownBlock = some w.heap.size) → (∀ g,v'.ownBlock = some g → Calm w' g) → wpList P ops Q rest (a.put o.dst v') w'):wpList P ops Q (o :: rest) a w:=by
 refine wpList_plain hgd fun K hK=>?_
 obtain ⟨v',w',hr,h2,h3,h4,h5⟩:=run_append_calm (P:=P) w base t o.type e i z size bytes ht hi hz hsize hby hzs hsz v n xs hown ad m c news hl hnews h1 h63 hbytes hbase hcv hcn hcz
 unfold Oper.wp execOp
 simp only [ho,resolve,invoke,builtin,Sem.run_bind,Sem.run_pure,Result.andThen_ok,List.map_toArray,List.map_cons,List.map_nil,hs,hx,hr]
 exact hK _ _ (h v' w' h2 h3 h4 h5)
end

theorem infoRw:(Try.prog.info? 99).map (fun i=>(i.zero,i.size,i.bytes)) = some (some (.agg #[.slice none 0 0,.bool false,.slice none 0 0,.bool false,.slice none 0 0]),5,88):=by kernel_rfl
theorem zeroF_calm:∀ u ∈ zeroF.cells,NoU u:=fun u hu=>by
 simp only [zeroF,Value.cells,List.mem_toArray,List.mem_cons,List.not_mem_nil,or_false] at hu
 rcases hu with rfl | rfl | rfl | rfl
 ·exact NoU.bool _
 ·exact NoU.slice _ _ _
 ·exact NoU.bool _
 ·exact NoU.slice _ _ _
theorem row_calm (s:Option Addr) (c d:Nat) (n:Bool) (a:Option Addr) (l k:Nat) (m:Bool) (b:Option Addr) (i j:Nat):∀ u ∈ [Value.slice s c d,.bool n,.slice a l k,.bool m,.slice b i j],NoU u:=fun u hu=>by
 simp only [List.mem_cons,List.not_mem_nil,or_false] at hu
 rcases hu with rfl | rfl | rfl | rfl | rfl
 ·exact NoU.slice _ _ _
 ·exact NoU.bool _
 ·exact NoU.slice _ _ _
 ·exact NoU.bool _
 ·exact NoU.slice _ _ _
theorem zeroRw_calm:∀ u ∈ (Value.agg #[.slice none 0 0,.bool false,.slice none 0 0,.bool false,.slice none 0 0]).cells,NoU u:=fun u hu=>by
 have h:u ∈ [Value.slice none 0 0,.bool false,.slice none 0 0,.bool false,.slice none 0 0]:=by simpa [Value.cells] using hu
 exact row_calm none 0 0 false none 0 0 false none 0 0 u h
def RowsX (w:World) (g:Nat) (S:Sys):Prop:=∀ i,i < S.m → ∃ ra rk,w.cell? ⟨g,i * 5,none⟩ = some (.slice ra S.n rk) ∧ Fit ra S.n rk ∧ (0 < S.n → ∃ rb ro,ra = some ⟨rb,ro,none⟩ ∧ rb ≠ g ∧ ∀ c,c < S.n → FAt w rb (ro + c * 4) (S.A i c)) ∧ FAt w g (i * 5 + 1) (S.most i)
def RowsC (w:World) (N:Nat) (v:Value) (S:Sys):Prop:=∃ xs,w.ownsRow N 99 5 v S.m xs ∧ (∀ g,v.ownBlock = some g → Calm w g) ∧ ∀ g,v.ownBlock = some g → RowsX w g S
theorem RowsX.v {w:World} {g:Nat} {S:Sys} (h:RowsX w g S):RowsV w g 0 S:=by
 intro i hi
 obtain ⟨ra,rk,h1,h2,h3,h4⟩:=h i hi
 refine ⟨ra,rk,by rw [Nat.zero_add]; exact h1,h2,fun hn=>?_,by rw [Nat.zero_add]; exact h4⟩
 obtain ⟨rb,ro,e,_,h5⟩:=h3 hn
 exact ⟨rb,ro,e,h5⟩
theorem RowsX.below {w w':World} {g B:Nat} {S:Sys} (h:RowsX w g S) (hb:Below B w w') (hB:w.heap.size ≤ B):RowsX w' g S:=by
 intro i hi
 obtain ⟨ra,rk,h1,h2,h3,h4⟩:=h i hi
 refine ⟨ra,rk,cellB h1 hb hB,h2,fun hn=>?_,h4.below hb hB⟩
 obtain ⟨rb,ro,e,hne,h5⟩:=h3 hn
 exact ⟨rb,ro,e,hne,fun c hc=>(h5 c hc).below hb hB⟩
section
variable {w w':World} {N:Nat} {v v':Value} {S S':Sys}
theorem RowsC.below (h:RowsC w N v S) (hb:Below w.heap.size w w'):RowsC w' N v S:=by
 obtain ⟨xs,h1,h2,h3⟩:=h
 exact ⟨xs,own_stays h1 (fun g hg=>hb.block g (h1.lt g hg).2),fun g hg=>(h2 g hg).below hb (h1.lt g hg).2,fun g hg=>(h3 g hg).below hb (Nat.le_refl _)⟩
theorem RowsC.lt (h:RowsC w N v S):∀ g,v.ownBlock = some g → N ≤ g ∧ g < w.heap.size:=by
 obtain ⟨xs,h1,_,_⟩:=h
 exact h1.lt
theorem RowsC.form (h:RowsC w N v S):∃ a k,v = .slice a S.m k ∧ ∃ b o,(0 < S.m → a = some ⟨b,o,none⟩) ∧ RowsV w b o S:=by
 obtain ⟨xs,h1,_,h3⟩:=h
 rcases h1.2 with ⟨rfl,h0⟩ | ⟨g,cap,cur,rfl,hg,_,hle,_⟩
 ·exact ⟨none,0,by rw [h0],0,0,fun h=>by omega,fun i hi=>by omega⟩
 ·exact ⟨some ⟨g,0,none⟩,cap,rfl,g,0,fun _=>rfl,(h3 g rfl).v⟩
def NewRow (w:World) (v:Value) (S:Sys) (i:Nat) (news:List Value) (d:Nat):Prop:=
 ∃ (ra:Option Addr) (rk:Nat) (n:Bool) (a:Option Addr) (l k:Nat) (m:Bool) (b:Option Addr) (i0 j0:Nat),(∀ e u,[Value.slice ra S.n rk,.bool n,.slice a l k,.bool m,.slice b i0 j0][e]? = some u → news[d * 5 + e]? = some u) ∧ Fit ra S.n rk ∧ (0 < S.n → ∃ rb ro,ra = some ⟨rb,ro,none⟩ ∧ v.ownBlock ≠ some rb ∧ ∀ c,c < S.n → FAt w rb (ro + c * 4) (S.A (i + d) c)) ∧ FracV w (.agg #[.bool n,.slice a l k,.bool m,.slice b i0 j0]) (S.most (i + d))
theorem RowsC.grow {xs news:List Value} {k j:Nat} (hj:S.m = j) (h1:w.ownsRow N 99 5 v j xs) (h2:∀ g,v.ownBlock = some g → Calm w g) (h3:∀ g,v.ownBlock = some g → RowsX w g S)
  (hn:S'.n = S.n) (hm:S'.m = j + k) (hA:∀ i c,i < j → c < S.n → S'.A i c = S.A i c) (hM:∀ i,i < j → S'.most i = S.most i)
  (hown:w'.ownsRow N 99 5 v' (j + k) (xs ++ news)) (hgrow:w.grownBy w' v.ownBlock) (hat:v'.ownBlock = v.ownBlock ∨ v'.ownBlock = some w.heap.size) (hcalm:∀ g,v'.ownBlock = some g → Calm w' g)
  (hnew:∀ d,d < k → NewRow w v S' j news d):RowsC w' N v' S':=by
 refine ⟨xs ++ news,by rw [hm]; exact hown,hcalm,fun g' hg' i hi=>?_⟩
 have hxl:xs.length = j * 5:=h1.1
 have hcell:=hown.cells hg'
 have hne':∀ rb,v.ownBlock ≠ some rb → rb < w.heap.size → rb ≠ g':=fun rb h1 h2 e=>by
  subst e
  rcases hat with h | h
  ·exact h1 (h.symm.trans hg')
  ·rw [hg'] at h
   have:=Option.some.inj h
   omega
 rcases Nat.lt_or_ge i j with hlt | hge
 ·rcases h1.2 with ⟨_,h0⟩ | ⟨g,cap,cur,rfl,_,hgb,_,_,_,ht⟩
  ·omega
  ·obtain ⟨ra,rk,c0,rfit,rrow,rmost⟩:=h3 g rfl i (by omega)
   have hold:∀ d u,d < 5 → w.cell? ⟨g,i * 5 + d,none⟩ = some u → w'.cell? ⟨g',i * 5 + d,none⟩ = some u:=fun d u hd hu=>by
    have hx:xs[i * 5 + d]? = some u:=by
     rw [Blk.cell (t:=99) (cs:=cur) hgb] at hu
     rw [← ht,List.getElem?_take_of_lt (by omega)]
     simpa using hu
    have:=hcell (i * 5 + d) u (by rw [List.getElem?_append_left (by omega)]; exact hx)
    rw [add_plain,Nat.zero_add] at this
    exact this
   rw [hn]
   refine ⟨ra,rk,hold 0 _ (by decide) c0,rfit,fun h0=>?_,?_⟩
   ·obtain ⟨rb,ro,e,hne,hF⟩:=rrow h0
    have hne2:(Value.slice (some ⟨g,0,none⟩) j cap).ownBlock ≠ some rb:=fun e=>hne (Option.some.inj e).symm
    refine ⟨rb,ro,e,hne' rb hne2 (hF 0 h0).lt,fun c hc=>?_⟩
    rw [hA i c hlt hc]
    exact (hF c hc).grown hgrow (fun e=>hne2 e.symm) h2
   ·rw [hM i hlt]
    exact rmost.moved hgrow h2 (fun d u hd hu=>by
     have:=hold (d + 1) u (by omega) (by rw [show i * 5 + (d + 1) = i * 5 + 1 + d from by omega]; exact hu)
     rwa [show i * 5 + (d + 1) = i * 5 + 1 + d from by omega] at this)
 ·obtain ⟨d,rfl⟩:∃ d,i = j + d:=⟨i - j,by omega⟩
  rw [hm] at hi
  obtain ⟨ra,rk,n,a,l,kk,m,b,i0,j0,hc,hfit,hrow,hq⟩:=hnew d (by omega)
  have hcc:∀ e u,e < 5 → [Value.slice ra S'.n rk,.bool n,.slice a l kk,.bool m,.slice b i0 j0][e]? = some u → w'.cell? ⟨g',(j + d) * 5 + e,none⟩ = some u:=fun e u he hu=>by
   have:=hcell ((j + d) * 5 + e) u (by rw [List.getElem?_append_right (by omega),show (j + d) * 5 + e - xs.length = d * 5 + e from by omega]; exact hc e u hu)
   rw [add_plain,Nat.zero_add] at this
   exact this
  refine ⟨ra,rk,hcc 0 _ (by decide) rfl,hfit,fun h0=>?_,?_⟩
  ·obtain ⟨rb,ro,e,hne,hF⟩:=hrow h0
   refine ⟨rb,ro,e,hne' rb hne (hF 0 h0).lt,fun c hc=>?_⟩
   exact (hF c hc).grown hgrow (fun e=>hne e.symm) h2
  ·exact ⟨n,a,l,kk,m,b,i0,j0,hcc 1 _ (by decide) rfl,hcc 2 _ (by decide) rfl,hcc 3 _ (by decide) rfl,hcc 4 _ (by decide) rfl,hq.grown hgrow h2⟩
end
end Go.Proofs.Ytphjffbldhhdiaa
