/- Texts in one file: Away, Knuth, Guess, LongLaw, LongLaw2, Long, Divide, DivLaw, Div, Gcd, Of. -/
import Derived.Test.YtphjffbldhhdiaaNa
namespace Go.Proofs.Ytphjffbldhhdiaa
open Go.RowKit

structure AwSt (U v:List Nat) (o t m j:Nat) (U':List Nat) (c br:Nat):Prop where
 len:U'.length = U.length
 digs:Digs BB U'
 car:c < BB
 bor:br ≤ 1
 val_:val BB U + BB ^ (o + j) * (br + c) = val BB U' + BB ^ o * (val BB (v.take j) * t)
 rest:∀ k,(k < o ∨ o + j ≤ k) → U'[k]? = U[k]?
 cv:BB ^ j * c ≤ val BB (v.take j) * t
theorem AwSt.start {U v:List Nat} {o t m:Nat} (h:Digs BB U):AwSt U v o t m 0 U 0 0:=⟨rfl,h,by rw [BB_eq]; omega,by omega,by simp [val],fun _ _=>rfl,by simp⟩
theorem AwSt.next {U v U':List Nat} {o t m j c br e s c' br' r:Nat} (h:AwSt U v o t m j U' c br) (hk:o + j < U'.length) (he:val BB (v.take (j + 1)) = val BB (v.take j) + BB ^ j * e) (hC:c + e * t = BB * c' + s) (hc':c' < BB) (hu:U'[o + j] + BB * br' = r + br + s) (hr:r < BB) (hb:br' ≤ 1):AwSt U v o t m (j + 1) (U'.set (o + j) r) c' br':=by
 refine ⟨by simp [h.len],h.digs.set hr,hc',hb,?_,fun k hkk=>by rw [List.getElem?_set_ne (by omega)]; exact h.rest k (by omega),?_⟩
 rotate_left
 ·have h1:BB ^ j * (c + e * t) = BB ^ (j + 1) * c' + BB ^ j * s:=by rw [hC,Nat.mul_add,Nat.pow_succ,Nat.mul_assoc]
  have h2:=h.cv
  rw [he,Nat.add_mul,Nat.mul_assoc]
  rw [Nat.mul_add] at h1
  omega
 have hs:=val_set (b:=BB) U' (o + j) r hk
 have hv:=h.val_
 have e1:BB ^ o * ((val BB (v.take j) + BB ^ j * e) * t) = BB ^ o * (val BB (v.take j) * t) + BB ^ (o + j) * (e * t):=by
  rw [Nat.add_mul,Nat.mul_add,Nat.pow_add,Nat.mul_assoc,Nat.mul_assoc]
 rw [he,e1]
 have e2:BB ^ (o + j) * (c + e * t) = BB ^ (o + (j + 1)) * c' + BB ^ (o + j) * s:=by
  rw [hC,Nat.mul_add,← Nat.add_assoc,Nat.pow_succ,Nat.mul_assoc]
 have e3:BB ^ (o + j) * (U'[o + j] + BB * br') = BB ^ (o + j) * (r + br + s):=by rw [hu]
 have e4:BB ^ (o + (j + 1)) * br' = BB ^ (o + j) * (BB * br'):=by rw [← Nat.add_assoc,Nat.pow_succ,Nat.mul_assoc]
 simp only [Nat.mul_add] at e2 e3 hv ⊢
 omega

def Apart (q:Option Addr) (G:Nat):Prop:=∀ b o,q = some ⟨b,o,none⟩ → b ≠ G

def AwPost (w:World) (G:Nat) (U v:List Nat) (o t m:Nat) (e:Ending) (w':World):Prop:=
 ∃ U' c br,e = .returned (.bool (decide (0 < br))) ∧ DRow .u32 85 w' G U' ∧ AwSt U v o t m m U' c br ∧ w.grownBy w' (some G) ∧ w'.heap.size = w.heap.size

theorem Dg.apart {k:IntKind} {w w':World} {q:Option Addr} {ds:List Nat} {G:Nat} (h:Dg k w q ds) (ha:Apart q G) (hg:w.grownBy w' (some G)):Dg k w' q ds:=by
 intro hn
 obtain ⟨b,off,e,hc⟩:=h hn
 refine ⟨b,off,e,fun i hi=>?_⟩
 have hlt:=World.block_lt_of_cell? w _ (hc i hi)
 have:=hg.block b (by simpa using hlt) (by simp; exact ha b off e)
 exact (World.cell?_of_block (w:=w) this).trans (hc i hi)

set_option maxRecDepth 100000 in
set_option maxHeartbeats 1600000 in
theorem takeAway_any (G o m cu:Nat) (q:Option Addr) (cq:Nat) (U V:List Nat) (t:Nat) (w:World) (hU:DRow .u32 85 w G U) (dU:Digs BB U) (hom:o + m ≤ U.length) (hUn:U.length ≤ 2199023255552) (hV:Dg .u32 w q V) (hap:Apart q G) (dV:Digs BB V) (ht:t < 1000000000) :
  Calls Try.prog 88 #[.slice (some ⟨G,o,none⟩) m cu,.slice q V.length cq,.int .u64 (t:Int)] w (AwPost w G U V o t m):=by
 generalize hP:AwPost w G U V o t m = Post
 have HP:=hide hP
 clear hP
 have hs0:AwSt U V o t m 0 U 0 0:=AwSt.start dU
 go_enter Try.func88,Try.ntmps88
 go_wp2_with fail
 go_loopg [7,8,13] m (fun k c b v wr=>∃ (j:Nat) (U':List Nat) (cc br:Nat),j + k = m ∧ v = .int .i64 (j:Int) ∧ c = .int .u64 (cc:Int) ∧ b = .int .i64 (br:Int) ∧ AwSt U V o t m j U' cc br ∧ DRow .u32 85 wr G U' ∧ w.grownBy wr (some G) ∧ wr.heap.size = w.heap.size)
 case atStart=>exact ⟨0,U,0,0,by omega,rfl,rfl,rfl,hs0,hU,only_refl _ _,rfl⟩
 case round=>
  obtain ⟨j,U',cc,br,hjr,rfl,rfl,rfl,hs,hD,hg,hsz⟩:=hrel
  have HJ:=hide hjr
  have HSZ:=hide hsz
  clear hs0 hU hjr hsz
  rcases Nat.lt_or_ge j m with hj | hj
  ·have hjo:o + j < U'.length:=by rw [hs.len]; omega
   have hco:=hD.cell hjo
   have hfo:=hD.frozen (o + j)
   have hcar:=hs.car
   have hbor:=hs.bor
   have ho9:=hs.digs.at hjo
   rw [BB_eq] at hcar ho9
   have HDS:=hide (fun (x:Nat)=>hD.set (o + j) x)
   have HG:=hide (fun (u:Value)=>only_setCell hg (p:=⟨G,o + j,none⟩) (.inl rfl) u)
   have HSS:=hide (fun (u:Value)=>(show (wr.setCell ⟨G,o + j,none⟩ u).heap.size = w.heap.size by simpa using HSZ.out))
   have hV':=hV.apart hap hg
   clear hD
   rcases Nat.lt_or_ge j V.length with hk | hk
   ·obtain ⟨b1,o1,rfl,hc1,hl1⟩:=hV'.at hk
    have hd9:=dV.at hk
    rw [BB_eq] at hd9
    have HN:=hide (fun (s c' br' r:Nat)=>AwSt.next (s:=s) (c':=c') (br':=br') (r:=r) hs hjo (val_take_succ hk))
    generalize V[j] = d at hc1 hd9 HN
    generalize U'[o + j] = O at hco ho9 HN
    clear hs
    have hdt2:d * t ≤ 999999999 * 999999999:=Nat.mul_le_mul (by omega) (by omega)
    have hdt0:=cast_mul d t
    generalize d * t = D at hdt2 hdt0 HN
    obtain ⟨s,hs⟩:∃ s:Nat,s = (cc + D) % 1000000000:=⟨_,rfl⟩
    obtain ⟨c',hc'⟩:∃ c':Nat,c' = (cc + D) / 1000000000:=⟨_,rfl⟩
    have hr1:((cc:Int) + (D:Int)) % 1000000000 = (s:Int):=by omega
    have hq1:((cc:Int) + (D:Int)) / 1000000000 = (c':Int):=by omega
    have HF:Hid (cc + D = BB * c' + s ∧ c' < BB):=hide (by rw [BB_eq]; omega)
    have hs9:s < 1000000000:=by omega
    clear hs hc'
    by_cases hneg:(O:Int) - (br:Int) - (s:Int) < 0
    ·obtain ⟨r,hr⟩:∃ r:Nat,(O:Int) - (br:Int) - (s:Int) + 1000000000 = (r:Int):=⟨((O:Int) - (br:Int) - (s:Int) + 1000000000).toNat,by omega⟩
     have HF2:Hid (O + BB * 1 = r + br + s ∧ r < BB ∧ 1 ≤ 1):=hide (by rw [BB_eq]; omega)
     have hr9:r < 1000000000:=by omega
     go_wp2_with fail
     have hjr:=HJ.out
     have hN:=HN.out s c' 1 r HF.out.1 HF.out.2 HF2.out.1 HF2.out.2.1 HF2.out.2.2
     go_roundg (gk - 1)
     case measure=>omega
     case rel=>exact ⟨j + 1,_,c',1,by omega,by go_num,by first | rfl | rw [hq1],rfl,hN,HDS.out r,HG.out _,HSS.out _⟩
    ·obtain ⟨r,hr⟩:∃ r:Nat,(O:Int) - (br:Int) - (s:Int) = (r:Int):=⟨((O:Int) - (br:Int) - (s:Int)).toNat,by omega⟩
     clear hneg
     have HF2:Hid (O + BB * 0 = r + br + s ∧ r < BB ∧ 0 ≤ 1):=hide (by rw [BB_eq]; omega)
     have hr9:r < 1000000000:=by omega
     go_wp2_with fail
     have hjr:=HJ.out
     have hN:=HN.out s c' 0 r HF.out.1 HF.out.2 HF2.out.1 HF2.out.2.1 HF2.out.2.2
     go_roundg (gk - 1)
     case measure=>omega
     case rel=>exact ⟨j + 1,_,c',0,by omega,by go_num,by first | rfl | rw [hq1],rfl,hN,HDS.out r,HG.out _,HSS.out _⟩
   ·have HN:=hide (fun (s c' br' r:Nat)=>AwSt.next (s:=s) (c':=c') (br':=br') (r:=r) (e:=0) hs hjo (by rw [val_take_ge hk]; simp))
    generalize U'[o + j] = O at hco ho9 HN
    clear hs
    obtain ⟨s,hs⟩:∃ s:Nat,s = cc % 1000000000:=⟨_,rfl⟩
    obtain ⟨c',hc'⟩:∃ c':Nat,c' = cc / 1000000000:=⟨_,rfl⟩
    have hr1:(cc:Int) % 1000000000 = (s:Int):=by omega
    have hq1:(cc:Int) / 1000000000 = (c':Int):=by omega
    have HF:Hid (cc + 0 * t = BB * c' + s ∧ c' < BB):=hide (by rw [BB_eq]; omega)
    have hs9:s < 1000000000:=by omega
    clear hs hc'
    by_cases hneg:(O:Int) - (br:Int) - (s:Int) < 0
    ·obtain ⟨r,hr⟩:∃ r:Nat,(O:Int) - (br:Int) - (s:Int) + 1000000000 = (r:Int):=⟨((O:Int) - (br:Int) - (s:Int) + 1000000000).toNat,by omega⟩
     have HF2:Hid (O + BB * 1 = r + br + s ∧ r < BB ∧ 1 ≤ 1):=hide (by rw [BB_eq]; omega)
     have hr9:r < 1000000000:=by omega
     go_wp2_with fail
     have hjr:=HJ.out
     have hN:=HN.out s c' 1 r HF.out.1 HF.out.2 HF2.out.1 HF2.out.2.1 HF2.out.2.2
     go_roundg (gk - 1)
     case measure=>omega
     case rel=>exact ⟨j + 1,_,c',1,by omega,by go_num,by first | rfl | rw [hq1],rfl,hN,HDS.out r,HG.out _,HSS.out _⟩
    ·obtain ⟨r,hr⟩:∃ r:Nat,(O:Int) - (br:Int) - (s:Int) = (r:Int):=⟨((O:Int) - (br:Int) - (s:Int)).toNat,by omega⟩
     clear hneg
     have HF2:Hid (O + BB * 0 = r + br + s ∧ r < BB ∧ 0 ≤ 1):=hide (by rw [BB_eq]; omega)
     have hr9:r < 1000000000:=by omega
     go_wp2_with fail
     have hjr:=HJ.out
     have hN:=HN.out s c' 0 r HF.out.1 HF.out.2 HF2.out.1 HF2.out.2.1 HF2.out.2.2
     go_roundg (gk - 1)
     case measure=>omega
     case rel=>exact ⟨j + 1,_,c',0,by omega,by go_num,by first | rfl | rw [hq1],rfl,hN,HDS.out r,HG.out _,HSS.out _⟩
  ·obtain rfl:j = m:=by have:=HJ.out; omega
   have hbor:=hs.bor
   rcases Nat.eq_zero_or_pos br with h0 | h0
   ·subst h0
    go_wp2_with fail
    rw [← HP.out]
    exact ⟨U',cc,0,rfl,hD,hs,hg,HSZ.out⟩
   ·obtain rfl:br = 1:=by omega
    go_wp2_with fail
    rw [← HP.out]
    exact ⟨U',cc,1,rfl,hD,hs,hg,HSZ.out⟩

structure BkSt (U v:List Nat) (o m j:Nat) (U':List Nat) (c:Nat):Prop where
 len:U'.length = U.length
 digs:Digs BB U'
 car:c ≤ 1
 val_:val BB U + BB ^ o * val BB (v.take j) = val BB U' + BB ^ (o + j) * c
 rest:∀ k,(k < o ∨ o + j ≤ k) → U'[k]? = U[k]?
theorem BkSt.start {U v:List Nat} {o m:Nat} (h:Digs BB U):BkSt U v o m 0 U 0:=⟨rfl,h,by omega,by simp [val],fun _ _=>rfl⟩
theorem BkSt.next {U v U':List Nat} {o m j c e q r:Nat} (h:BkSt U v o m j U' c) (hk:o + j < U'.length) (he:val BB (v.take (j + 1)) = val BB (v.take j) + BB ^ j * e) (hq:U'[o + j] + c + e = BB * q + r) (hr:r < BB) (hq1:q ≤ 1):BkSt U v o m (j + 1) (U'.set (o + j) r) q:=by
 refine ⟨by simp [h.len],h.digs.set hr,hq1,?_,fun k hkk=>by rw [List.getElem?_set_ne (by omega)]; exact h.rest k (by omega)⟩
 have hs:=val_set (b:=BB) U' (o + j) r hk
 have hv:=h.val_
 have e1:BB ^ o * (val BB (v.take j) + BB ^ j * e) = BB ^ o * val BB (v.take j) + BB ^ (o + j) * e:=by rw [Nat.mul_add,Nat.pow_add,Nat.mul_assoc]
 have e2:BB ^ (o + j) * (U'[o + j] + c + e) = BB ^ (o + (j + 1)) * q + BB ^ (o + j) * r:=by
  rw [hq,Nat.mul_add,← Nat.add_assoc,Nat.pow_succ,Nat.mul_assoc]
 rw [he,e1]
 simp only [Nat.mul_add] at e2 ⊢
 omega
def BkPost (w:World) (G:Nat) (U v:List Nat) (o m:Nat) (e:Ending) (w':World):Prop:=
 ∃ U' c,e = .returned (.tuple #[]) ∧ DRow .u32 85 w' G U' ∧ BkSt U v o m m U' c ∧ w.grownBy w' (some G) ∧ w'.heap.size = w.heap.size

set_option maxRecDepth 100000 in
set_option maxHeartbeats 1600000 in
theorem putBack_any (G o m cu:Nat) (q:Option Addr) (cq:Nat) (U V:List Nat) (w:World) (hU:DRow .u32 85 w G U) (dU:Digs BB U) (hom:o + m ≤ U.length) (hUn:U.length ≤ 2199023255552) (hV:Dg .u32 w q V) (hap:Apart q G) (dV:Digs BB V) :
  Calls Try.prog 89 #[.slice (some ⟨G,o,none⟩) m cu,.slice q V.length cq] w (BkPost w G U V o m):=by
 generalize hP:BkPost w G U V o m = Post
 have HP:=hide hP
 clear hP
 have hs0:BkSt U V o m 0 U 0:=BkSt.start dU
 go_enter Try.func89,Try.ntmps89
 go_wp2_with fail
 go_loopg [4,9] m (fun k c v wr=>∃ (j:Nat) (U':List Nat) (cc:Nat),j + k = m ∧ v = .int .i64 (j:Int) ∧ c = .int .u32 (cc:Int) ∧ BkSt U V o m j U' cc ∧ DRow .u32 85 wr G U' ∧ w.grownBy wr (some G) ∧ wr.heap.size = w.heap.size)
 case atStart=>exact ⟨0,U,0,by omega,rfl,rfl,hs0,hU,only_refl _ _,rfl⟩
 case round=>
  obtain ⟨j,U',cc,hjr,rfl,rfl,hs,hD,hg,hsz⟩:=hrel
  have HJ:=hide hjr
  have HSZ:=hide hsz
  clear hs0 hU hjr hsz
  rcases Nat.lt_or_ge j m with hj | hj
  ·have hjo:o + j < U'.length:=by rw [hs.len]; omega
   have hco:=hD.cell hjo
   have hfo:=hD.frozen (o + j)
   have hcar:=hs.car
   have ho9:=hs.digs.at hjo
   rw [BB_eq] at ho9
   have HDS:=hide (fun (x:Nat)=>hD.set (o + j) x)
   have HG:=hide (fun (u:Value)=>only_setCell hg (p:=⟨G,o + j,none⟩) (.inl rfl) u)
   have HSS:=hide (fun (u:Value)=>(show (wr.setCell ⟨G,o + j,none⟩ u).heap.size = w.heap.size by simpa using HSZ.out))
   have hV':=hV.apart hap hg
   clear hD
   rcases Nat.lt_or_ge j V.length with hk | hk
   ·obtain ⟨b1,o1,rfl,hc1,hl1⟩:=hV'.at hk
    have hd9:=dV.at hk
    rw [BB_eq] at hd9
    have HN:=hide (fun (q r:Nat)=>BkSt.next (q:=q) (r:=r) hs hjo (val_take_succ hk))
    generalize V[j] = d at hc1 hd9 HN
    generalize U'[o + j] = O at hco ho9 HN
    clear hs
    obtain ⟨r,hr⟩:∃ r:Nat,r = (O + cc + d) % 1000000000:=⟨_,rfl⟩
    obtain ⟨q,hq⟩:∃ q:Nat,q = (O + cc + d) / 1000000000:=⟨_,rfl⟩
    have hr1:((O:Int) + (cc:Int) + (d:Int)) % 1000000000 = (r:Int):=by omega
    have hq1:((O:Int) + (cc:Int) + (d:Int)) / 1000000000 = (q:Int):=by omega
    have HF:Hid (O + cc + d = BB * q + r ∧ r < BB ∧ q ≤ 1):=hide (by rw [BB_eq]; omega)
    have hr9:r < 1000000000:=by omega
    clear hr hq
    go_wp2_with fail
    have hjr:=HJ.out
    have hN:=HN.out q r HF.out.1 HF.out.2.1 HF.out.2.2
    go_roundg (gk - 1)
    case measure=>omega
    case rel=>exact ⟨j + 1,_,q,by omega,by go_num,by first | rfl | rw [hq1],hN,HDS.out r,HG.out _,HSS.out _⟩
   ·have HN:=hide (fun (q r:Nat)=>BkSt.next (q:=q) (r:=r) (e:=0) hs hjo (by rw [val_take_ge hk]; simp))
    generalize U'[o + j] = O at hco ho9 HN
    clear hs
    obtain ⟨r,hr⟩:∃ r:Nat,r = (O + cc) % 1000000000:=⟨_,rfl⟩
    obtain ⟨q,hq⟩:∃ q:Nat,q = (O + cc) / 1000000000:=⟨_,rfl⟩
    have hr1:((O:Int) + (cc:Int)) % 1000000000 = (r:Int):=by omega
    have hq1:((O:Int) + (cc:Int)) / 1000000000 = (q:Int):=by omega
    have HF:Hid (O + cc + 0 = BB * q + r ∧ r < BB ∧ q ≤ 1):=hide (by rw [BB_eq]; omega)
    have hr9:r < 1000000000:=by omega
    clear hr hq
    go_wp2_with fail
    have hjr:=HJ.out
    have hN:=HN.out q r HF.out.1 HF.out.2.1 HF.out.2.2
    go_roundg (gk - 1)
    case measure=>omega
    case rel=>exact ⟨j + 1,_,q,by omega,by go_num,by first | rfl | rw [hq1],hN,HDS.out r,HG.out _,HSS.out _⟩
  ·obtain rfl:j = m:=by have:=HJ.out; omega
   go_wp2_with fail
   go_end0
   rw [← HP.out]
   exact ⟨U',cc,rfl,hD,hs,hg,HSZ.out⟩
end Go.Proofs.Ytphjffbldhhdiaa

namespace Go.Proofs.Ytphjffbldhhdiaa

theorem val_two {v:List Nat} {n:Nat} (hn:v.length = n + 2) (hd:Digs BB v):∃ v',v' < BB ^ n ∧ val BB v = v' + BB ^ n * (v[n]'(by omega) + BB * v[n + 1]'(by omega)):=by
 refine ⟨val BB (v.take n),?_,?_⟩
 ·have:=val_lt (hd.take n)
  rwa [List.length_take,Nat.min_eq_left (by omega)] at this
 ·rw [val_take_drop BB v n (by omega),List.drop_eq_getElem_cons (show n < v.length by omega),List.drop_eq_getElem_cons (show n + 1 < v.length by omega),List.drop_of_length_le (by omega)]
  simp [val]
theorem val_three {u:List Nat} {n:Nat} (hn:u.length = n + 3) (hd:Digs BB u):∃ u',u' < BB ^ n ∧ val BB u = u' + BB ^ n * (u[n]'(by omega) + BB * (u[n + 1]'(by omega) + BB * u[n + 2]'(by omega))):=by
 refine ⟨val BB (u.take n),?_,?_⟩
 ·have:=val_lt (hd.take n)
  rwa [List.length_take,Nat.min_eq_left (by omega)] at this
 ·rw [val_take_drop BB u n (by omega),List.drop_eq_getElem_cons (show n < u.length by omega),List.drop_eq_getElem_cons (show n + 1 < u.length by omega),List.drop_eq_getElem_cons (show n + 2 < u.length by omega),List.drop_of_length_le (by omega)]
  simp [val]

structure Kn (P U V u' u2 u1 u0 v' v2 v1:Nat):Prop where
 hU:U = u' + P * (u2 + BB * (u1 + BB * u0))
 hV:V = v' + P * (v2 + BB * v1)
 hu':u' < P
 hv':v' < P
 hu2:u2 < BB
 hu1:u1 < BB
 hv2:v2 < BB
 hv1:1 ≤ v1
 hlt:U < V * BB

section
variable {P U V u' u2 u1 u0 v' v2 v1:Nat}
theorem Kn.vpos (h:Kn P U V u' u2 u1 u0 v' v2 v1):0 < V:=by
 have hP:0 < P:=Nat.lt_of_le_of_lt (Nat.zero_le _) h.hv'
 rw [h.hV]
 have:P * 1 ≤ P * (v2 + BB * v1):=Nat.mul_le_mul_left _ (by have:=h.hv1; have:1 * 1 ≤ BB * v1:=Nat.mul_le_mul (by rw [BB_eq]; omega) this; omega)
 omega
theorem Kn.top (h:Kn P U V u' u2 u1 u0 v' v2 v1):u0 * BB + u1 < v1 * BB + BB:=by
 have hP:0 < P:=Nat.lt_of_le_of_lt (Nat.zero_le _) h.hv'
 have h1:P * (BB * (BB * u0)) ≤ U:=by
  rw [h.hU]
  have:P * (BB * (BB * u0)) ≤ P * (u2 + BB * (u1 + BB * u0)):=Nat.mul_le_mul_left _ (by rw [Nat.mul_add]; omega)
  omega
 have h2:V * BB < P * (BB * (BB * (v1 + 1))):=by
  have:V < P * (BB * (v1 + 1)):=by
   rw [h.hV]
   have e:P * (v2 + BB * v1) + P ≤ P * (BB * (v1 + 1)):=by
    rw [← Nat.mul_succ]
    apply Nat.mul_le_mul_left
    have:=h.hv2
    rw [Nat.mul_add]
    omega
   have:=h.hv'
   omega
  refine Nat.lt_of_lt_of_eq (Nat.mul_lt_mul_of_pos_right this (by rw [BB_eq]; omega)) ?_
  rw [Nat.mul_assoc P,Nat.mul_assoc BB,Nat.mul_comm (v1 + 1) BB]
 have h3:u0 < v1 + 1:=by
  have:P * (BB * (BB * u0)) < P * (BB * (BB * (v1 + 1))):=by have:=h.hlt; omega
  have h4:=Nat.lt_of_mul_lt_mul_left this
  have h5:=Nat.lt_of_mul_lt_mul_left h4
  exact Nat.lt_of_mul_lt_mul_left h5
 have:u0 * BB ≤ v1 * BB:=Nat.mul_le_mul_right _ (by omega)
 have:=h.hu1
 omega
theorem Kn.over (h:Kn P U V u' u2 u1 u0 v' v2 v1) {g r:Nat} (hg:g * v1 + r = u0 * BB + u1) (ho:r * BB + u2 < g * v2):U < g * V:=by
 have e1:g * (v2 + BB * v1) = g * v2 + (g * v1) * BB:=by rw [Nat.mul_add,Nat.mul_comm BB v1,← Nat.mul_assoc]
 have e2:(g * v1) * BB + r * BB = u0 * BB * BB + u1 * BB:=by rw [← Nat.add_mul,hg,Nat.add_mul]
 have h1:u2 + BB * (u1 + BB * u0) + 1 ≤ g * (v2 + BB * v1):=by
  rw [e1,Nat.mul_add,Nat.mul_comm BB u1,Nat.mul_comm BB u0,Nat.mul_comm BB (u0 * BB)]
  omega
 have h2:P * (u2 + BB * (u1 + BB * u0) + 1) ≤ P * (g * (v2 + BB * v1)):=Nat.mul_le_mul_left _ h1
 have e3:g * V = g * v' + P * (g * (v2 + BB * v1)):=by rw [h.hV,Nat.mul_add,← Nat.mul_assoc,Nat.mul_comm g P,Nat.mul_assoc]
 rw [Nat.mul_add,Nat.mul_one] at h2
 have:=h.hu'
 rw [h.hU,e3]
 omega
theorem Kn.first (h:Kn P U V u' u2 u1 u0 v' v2 v1) {q:Nat} (hq:q * V ≤ U):q * v1 ≤ u0 * BB + u1:=by
 have hP:0 < P:=Nat.lt_of_le_of_lt (Nat.zero_le _) h.hv'
 have h1:P * (BB * (q * v1)) ≤ U:=by
  refine Nat.le_trans ?_ hq
  rw [h.hV,Nat.mul_add]
  have:P * (BB * (q * v1)) ≤ q * (P * (v2 + BB * v1)):=by
   rw [← Nat.mul_assoc q,Nat.mul_comm q P,Nat.mul_assoc]
   apply Nat.mul_le_mul_left
   rw [Nat.mul_add,← Nat.mul_assoc q BB,Nat.mul_comm q BB,Nat.mul_assoc]
   omega
  omega
 have h2:U < P * (BB * (u0 * BB + u1 + 1)):=by
  rw [h.hU]
  have e:P * (u2 + BB * (u1 + BB * u0)) + P ≤ P * (BB * (u0 * BB + u1 + 1)):=by
   rw [← Nat.mul_succ]
   apply Nat.mul_le_mul_left
   have:=h.hu2
   rw [Nat.mul_add,Nat.mul_add,Nat.mul_add,Nat.mul_comm BB (u0 * BB),Nat.mul_comm u0 BB,Nat.mul_comm BB (BB * u0)]
   omega
  have:=h.hu'
  omega
 have h3:=Nat.lt_of_mul_lt_mul_left (Nat.lt_of_le_of_lt h1 h2)
 have h4:=Nat.lt_of_mul_lt_mul_left h3
 omega
theorem Kn.near (h:Kn P U V u' u2 u1 u0 v' v2 v1) {g r:Nat} (hg:g * v1 + r = u0 * BB + u1) (hgB:g < BB) (ho:g * v2 ≤ r * BB + u2):(g - 1) * V ≤ U:=by
 have e1:g * (v2 + BB * v1) = g * v2 + (g * v1) * BB:=by rw [Nat.mul_add,Nat.mul_comm BB v1,← Nat.mul_assoc]
 have e2:(g * v1) * BB + r * BB = u0 * BB * BB + u1 * BB:=by rw [← Nat.add_mul,hg,Nat.add_mul]
 have h1:g * (v2 + BB * v1) ≤ u2 + BB * (u1 + BB * u0):=by
  rw [e1,Nat.mul_add,Nat.mul_comm BB u1,Nat.mul_comm BB u0,Nat.mul_comm BB (u0 * BB)]
  omega
 have h2:P * (g * (v2 + BB * v1)) ≤ P * (u2 + BB * (u1 + BB * u0)):=Nat.mul_le_mul_left _ h1
 have e3:g * V = g * v' + P * (g * (v2 + BB * v1)):=by rw [h.hV,Nat.mul_add,← Nat.mul_assoc,Nat.mul_comm g P,Nat.mul_assoc]
 have h3:g * v' ≤ V:=by
  have h4:g * v' ≤ BB * P:=Nat.mul_le_mul (by omega) (by have:=h.hv'; omega)
  have h5:P * (BB * 1) ≤ P * (v2 + BB * v1):=Nat.mul_le_mul_left _ (by
   have:BB * 1 ≤ BB * v1:=Nat.mul_le_mul_left _ h.hv1
   omega)
  rw [h.hV]
  rw [Nat.mul_comm BB P] at h4
  rw [Nat.mul_one] at h5
  omega
 rw [Nat.sub_mul,Nat.one_mul]
 have:=h.hU
 omega
theorem Kn.far (h:Kn P U V u' u2 u1 u0 v' v2 v1) {g r:Nat} (hg:g * v1 + r = u0 * BB + u1) (hgB:g < BB) (hr:BB ≤ r):g * V ≤ U:=by
 have h1:v' + P * v2 ≤ P * BB:=by
  have:P * (v2 + 1) ≤ P * BB:=Nat.mul_le_mul_left _ h.hv2
  rw [Nat.mul_add] at this
  have:=h.hv'
  omega
 have e1:g * V = g * (v' + P * v2) + P * (BB * (g * v1)):=by
  rw [h.hV,Nat.mul_add,Nat.mul_add,Nat.mul_add,Nat.mul_add,← Nat.mul_assoc g P (BB * v1),Nat.mul_comm g P,Nat.mul_assoc P g,← Nat.mul_assoc g BB,Nat.mul_comm g BB,Nat.mul_assoc BB g]
  omega
 have h2:g * (v' + P * v2) ≤ BB * (P * BB):=Nat.mul_le_mul (by omega) h1
 have h3:P * (BB * (g * v1)) + P * (BB * BB) ≤ P * (BB * (u0 * BB + u1)):=by
  rw [← Nat.mul_add,← Nat.mul_add]
  exact Nat.mul_le_mul_left _ (Nat.mul_le_mul_left _ (by omega))
 have h4:P * (BB * (u0 * BB + u1)) ≤ U:=by
  rw [h.hU]
  have:P * (BB * (u0 * BB + u1)) ≤ P * (u2 + BB * (u1 + BB * u0)):=Nat.mul_le_mul_left _ (by
   rw [Nat.mul_comm u0 BB,Nat.add_comm (BB * u0) u1]; omega)
  omega
 have e2:BB * (P * BB) = P * (BB * BB):=by rw [← Nat.mul_assoc,Nat.mul_comm BB P,Nat.mul_assoc]
 omega
end
end Go.Proofs.Ytphjffbldhhdiaa

namespace Go.Proofs.Ytphjffbldhhdiaa
open Go.RowKit

def GuPost (w:World) (Q:Nat) (e:Ending) (w':World):Prop:=∃ g n:Nat,e = .returned (.int .u64 (g:Int)) ∧ g < BB ∧ Q ≤ g ∧ g ≤ Q + 1 ∧ w' = w.drewN n

set_option maxRecDepth 100000 in
set_option maxHeartbeats 1600000 in
theorem guessed_any (G o m cu:Nat) (q:Option Addr) (cq:Nat) (U V:List Nat) (w:World) (hU:DRow .u32 85 w G U) (dU:Digs BB U) (hom:o + m + 3 ≤ U.length) (hUn:U.length ≤ 2199023255552) (hV:Dg .u32 w q V) (dV:Digs BB V) (hVl:V.length = m + 2)
  (Un Vn P u' v':Nat) (hk:Kn P Un Vn u' (U[o + m]'(by omega)) (U[o + m + 1]'(by omega)) (U[o + m + 2]'(by omega)) v' (V[m]'(by omega)) (V[m + 1]'(by omega))) :
  Calls Try.prog 87 #[.slice (some ⟨G,o,none⟩) (m + 3) cu,.slice q (m + 2) cq] w (GuPost w (Un / Vn)):=by
 generalize hP:GuPost w (Un / Vn) = Post
 have HP:=hide hP
 clear hP
 have c0:=hU.cell (i:=o + m) (by omega)
 have c1:=hU.cell (i:=o + m + 1) (by omega)
 have c2:=hU.cell (i:=o + m + 2) (by omega)
 obtain ⟨b1,o1,rfl,d0,hl1⟩:=hV.at (i:=m) (by omega)
 obtain ⟨b2,o2,he,d1,hl2⟩:=hV.at (i:=m + 1) (by omega)
 have e2:b2 = b1 ∧ o2 = o1:=by injection he with he; injection he with h1 h2; exact ⟨h1.symm,h2.symm⟩
 obtain ⟨rfl,rfl⟩:=e2
 have hu2:=dU.at (i:=o + m) (by omega)
 have hu1:=dU.at (i:=o + m + 1) (by omega)
 have hu0:=dU.at (i:=o + m + 2) (by omega)
 have hv2:=dV.at (i:=m) (by omega)
 have hv1:=dV.at (i:=m + 1) (by omega)
 have HKN:=hide hk
 have hv1p:=hk.hv1
 have hVp:=hk.vpos
 obtain ⟨Q,hQ⟩:∃ Q:Nat,Q = Un / Vn:=⟨_,rfl⟩
 have HQ0:Hid (Q * Vn ≤ Un):=hide (by rw [hQ]; exact Nat.div_mul_le_self _ _)
 have HQ1:Hid (∀ g,g * Vn ≤ Un → g ≤ Q):=hide (fun g h=>by rw [hQ]; exact (Nat.le_div_iff_mul_le hVp).2 h)
 have HQ2:Hid (∀ g,Un < g * Vn → Q + 1 ≤ g):=hide (fun g h=>by rw [hQ]; exact (Nat.div_lt_iff_lt_mul hVp).2 h)
 have hQB:Q < 1000000000:=by
  have:Q < BB:=by rw [hQ,Nat.div_lt_iff_lt_mul hVp,Nat.mul_comm]; exact hk.hlt
  rw [BB_eq] at this
  exact this
 rw [← hQ] at HP
 clear hQ
 generalize U[o + m] = u2 at *
 generalize U[o + m + 1] = u1 at *
 generalize U[o + m + 2] = u0 at *
 generalize V[m] = v2 at *
 generalize V[m + 1] = v1 at *
 rw [BB_eq] at hu2 hu1 hu0 hv2 hv1
 clear hk he
 have hml:m + 3 ≤ 2199023255552:=by omega
 have w1:IntKind.i64.wrap (((m + 2:Nat):Int) - 1) = ((m + 1:Nat):Int):=by rw [IntWalk.i64_in _ (by omega)]; omega
 have w2:IntKind.i64.wrap (((m + 2:Nat):Int) - 2) = ((m:Nat):Int):=by rw [IntWalk.i64_in _ (by omega)]; omega
 go_enter Try.func87,Try.ntmps87
 go_wp2_with fail
 go_quiet (fail)
 obtain ⟨nq1,hn1⟩:∃ k:Nat,k = nq:=⟨_,rfl⟩
 subst hn1
 have c1':w.cell? ⟨G,o + (m + 1),none⟩ = some (.int .u32 (u1:Int)):=c1
 have c2':w.cell? ⟨G,o + (m + 2),none⟩ = some (.int .u32 (u0:Int)):=c2
 go_wp2_with fail
 go_quiet (fail)
 obtain ⟨nq2,hn2⟩:∃ k:Nat,k = nq:=⟨_,rfl⟩
 subst hn2
 obtain ⟨g0,hg0⟩:∃ g:Nat,g = (u0 * 1000000000 + u1) / v1:=⟨_,rfl⟩
 obtain ⟨r0,hr0⟩:∃ r:Nat,r = (u0 * 1000000000 + u1) % v1:=⟨_,rfl⟩
 have hq1:((u0:Int) * 1000000000 + (u1:Int)) / (v1:Int) = (g0:Int):=by rw [hg0]; exact cast_div u0 u1 v1
 have hr1:((u0:Int) * 1000000000 + (u1:Int)) % (v1:Int) = (r0:Int):=by rw [hr0]; exact cast_mod u0 u1 v1
 have hr0lt:r0 < v1:=by rw [hr0]; exact Nat.mod_lt _ (by omega)
 have HG0:Hid (g0 * v1 + r0 = u0 * BB + u1 ∧ Q ≤ g0):=hide (by
  refine ⟨?_,?_⟩
  ·rw [BB_eq,hg0,hr0,Nat.mul_comm]; exact Nat.div_add_mod _ _
  ·rw [hg0,Nat.le_div_iff_mul_le (by omega)]
   have:=HKN.out.first (q:=Q) HQ0.out
   rw [BB_eq] at this
   exact this)
 have hvv:(1:Int) ≤ (v1:Int):=by omega
 clear hg0 hr0
 go_wp2_with fail
 go_quiet (fail)
 go_wp2_with fail
 rw [hq1,hr1]
 obtain ⟨N,hN⟩:=drew3 (w:=w) (n:=nq1) (m:=nq2) (l:=nq)
 rw [hN]
 clear hN hq1 hr1 w1 w2
 go_loopg [9,10] g0 (fun k a b wr=>∃ (g r n:Nat),k = g ∧ a = .int .u64 (g:Int) ∧ b = .int .u64 (r:Int) ∧ r < 1000000000 ∧ Hid (g * v1 + r = u0 * BB + u1 ∧ Q ≤ g) ∧ wr = w.drewN n)
 case atStart=>exact ⟨g0,r0,N,rfl,rfl,rfl,by omega,HG0,rfl⟩
 case round=>
  obtain ⟨g,r,n,rfl,rfl,rfl,hr9,HG,rfl⟩:=hrel
  clear HG0 hr0lt
  have htop:=HKN.out.top
  have HST:Hid (1000000000 ≤ gk ∨ r * 1000000000 + u2 < gk * v2 → Q + 1 ≤ gk):=hide (fun h=>by
   rcases h with h | h
   ·omega
   ·exact HQ2.out _ (HKN.out.over HG.out.1 (by rw [BB_eq]; exact h)))
  have hgk:gk ≤ 1000000000 * 1000000000:=by
   have h1:=HG.out.1
   have h2:gk * 1 ≤ gk * v1:=Nat.mul_le_mul_left _ hv1p
   rw [BB_eq] at h1
   omega
  have HNX:Hid (Q + 1 ≤ gk → (gk - 1) * v1 + (r + v1) = u0 * BB + u1 ∧ Q ≤ gk - 1):=hide (fun h=>by
   refine ⟨?_,by omega⟩
   have h1:=HG.out.1
   obtain ⟨t,rfl⟩:∃ t,gk = t + 1:=⟨gk - 1,by omega⟩
   rw [Nat.add_mul,Nat.one_mul] at h1
   simp only [Nat.add_sub_cancel]
   omega)
  have HFAR:Hid (Q + 1 ≤ gk → 1000000000 ≤ r + v1 → gk - 1 < BB ∧ Q ≤ gk - 1 ∧ gk - 1 ≤ Q + 1):=hide (fun h hfar=>by
   obtain ⟨e1,e2⟩:=HNX.out h
   have hlt:gk - 1 < BB:=by
    rcases Nat.lt_or_ge (gk - 1) BB with h' | h'
    ·exact h'
    ·have:BB * v1 ≤ (gk - 1) * v1:=Nat.mul_le_mul_right _ h'
     rw [Nat.mul_comm BB v1] at this
     rw [BB_eq] at this htop e1
     omega
   have:=HKN.out.far e1 hlt (by rw [BB_eq]; exact hfar)
   have h3:gk - 1 ≤ Q:=HQ1.out _ this
   exact ⟨hlt,e2,by omega⟩)
  have HNEAR:Hid (gk < 1000000000 → ¬ r * 1000000000 + u2 < gk * v2 → gk < BB ∧ Q ≤ gk ∧ gk ≤ Q + 1):=hide (fun h hn=>by
   have hlt:gk < BB:=by rw [BB_eq]; exact h
   have:=HKN.out.near HG.out.1 hlt (by rw [BB_eq]; omega)
   have h3:gk - 1 ≤ Q:=HQ1.out _ this
   exact ⟨hlt,HG.out.2,by omega⟩)
  clear HG htop
  rcases Nat.lt_or_ge gk 1000000000 with hsm | hbig
  ·clear hgk
   have hgv2:gk * v2 ≤ 999999999 * 999999999:=Nat.mul_le_mul (by omega) (by omega)
   have hgv:=cast_mul gk v2
   generalize gk * v2 = D at hgv2 hgv HST HNEAR
   have hsmI:(gk:Int) < 1000000000:=by omega
   have t1:decide ((1000000000:Int) ≤ (gk:Int)) = false:=decide_eq_false (by omega)
   by_cases hov:r * 1000000000 + u2 < D
   ·have t2:decide ((r:Int) * 1000000000 + (u2:Int) < (D:Int)) = true:=decide_eq_true (by omega)
    have hq1:1 ≤ gk:=by have:=HST.out (.inr hov); omega
    rcases Nat.lt_or_ge (r + v1) 1000000000 with hlt | hge
    ·have HN:=hide (HNX.out (HST.out (.inr hov)))
     have hnf:decide ((1000000000:Int) ≤ (r:Int) + (v1:Int)) = false:=decide_eq_false (by omega)
     have HLT:=hide hlt
     clear HNX HFAR HNEAR HST hlt hsm hov
     go_wp2_with fail
     go_roundg (gk - 1)
     case measure=>omega
     case rel=>exact ⟨gk - 1,r + v1,n,rfl,congrArg (Value.int .u64) (by omega),congrArg (Value.int .u64) (by omega),HLT.out,HN,rfl⟩
    ·have HN:=hide (HFAR.out (HST.out (.inr hov)) hge)
     have hnf:decide ((1000000000:Int) ≤ (r:Int) + (v1:Int)) = true:=decide_eq_true (by omega)
     clear HNX HFAR HNEAR HST hge hsm hov
     go_wp2_with fail
     rw [← HP.out]
     exact ⟨gk - 1,n,by rw [show ((gk - 1:Nat):Int) = (gk:Int) - 1 by omega]; rfl,HN.out.1,HN.out.2.1,HN.out.2.2,rfl⟩
   ·have HN:=hide (HNEAR.out hsm hov)
    have t2:decide ((r:Int) * 1000000000 + (u2:Int) < (D:Int)) = false:=decide_eq_false (by omega)
    clear HNX HFAR HNEAR HST hsm hov
    go_wp2_with fail
    rw [← HP.out]
    exact ⟨gk,n,rfl,HN.out.1,HN.out.2.1,HN.out.2.2,rfl⟩
  ·have hbigI:(1000000000:Int) ≤ (gk:Int):=by omega
   have t1:decide ((1000000000:Int) ≤ (gk:Int)) = true:=decide_eq_true (by omega)
   have hq1:1 ≤ gk:=by have:=HST.out (.inl hbig); omega
   rcases Nat.lt_or_ge (r + v1) 1000000000 with hlt | hge
   ·have HN:=hide (HNX.out (HST.out (.inl hbig)))
    have hnf:decide ((1000000000:Int) ≤ (r:Int) + (v1:Int)) = false:=decide_eq_false (by omega)
    have HLT:=hide hlt
    clear HNX HFAR HNEAR HST hlt hbig
    go_wp2_with fail
    go_roundg (gk - 1)
    case measure=>omega
    case rel=>exact ⟨gk - 1,r + v1,n,rfl,congrArg (Value.int .u64) (by omega),congrArg (Value.int .u64) (by omega),HLT.out,HN,rfl⟩
   ·have HN:=hide (HFAR.out (HST.out (.inl hbig)) hge)
    have hnf:decide ((1000000000:Int) ≤ (r:Int) + (v1:Int)) = true:=decide_eq_true (by omega)
    clear HNX HFAR HNEAR HST hge hbig
    go_wp2_with fail
    rw [← HP.out]
    exact ⟨gk - 1,n,by rw [show ((gk - 1:Nat):Int) = (gk:Int) - 1 by omega]; rfl,HN.out.1,HN.out.2.1,HN.out.2.2,rfl⟩
end Go.Proofs.Ytphjffbldhhdiaa

namespace Go.Proofs.Ytphjffbldhhdiaa

theorem take_same {U U':List Nat} {j:Nat} (h:∀ k,k < j → U'[k]? = U[k]?):U'.take j = U.take j:=by
 apply List.ext_getElem?
 intro k
 rw [List.getElem?_take,List.getElem?_take]
 split
 ·rename_i hk; exact h k hk
 ·rfl
theorem drop_same {U U':List Nat} {j:Nat} (h:∀ k,j ≤ k → U'[k]? = U[k]?):U'.drop j = U.drop j:=by
 apply List.ext_getElem?
 intro k
 rw [List.getElem?_drop,List.getElem?_drop]
 exact h _ (by omega)
theorem drop_zero_of {ds:List Nat} {n:Nat} (h:val BB ds < BB ^ n):val BB (ds.drop n) = 0:=by
 rcases Nat.lt_or_ge ds.length n with hl | hl
 ·rw [List.drop_of_length_le (by omega)]; rfl
 ·rw [val_take_drop BB ds n hl] at h
  rcases Nat.eq_zero_or_pos (val BB (ds.drop n)) with h0 | h0
  ·exact h0
  ·have:BB ^ n * 1 ≤ BB ^ n * val BB (ds.drop n):=Nat.mul_le_mul_left _ h0
   omega
theorem val_at {ds:List Nat} {j:Nat} (hj:j < ds.length):val BB (ds.drop j) = ds[j] + BB * val BB (ds.drop (j + 1)):=by
 rw [List.drop_eq_getElem_cons hj]; rfl

structure Rnd (U U':List Nat) (j Vn:Nat):Prop where
 len:U'.length = U.length
 digs:Digs BB U'
 val_:val BB U' + BB ^ j * (Vn * (val BB (U.drop j) / Vn)) = val BB U
 left:val BB (U'.drop j) = val BB (U.drop j) % Vn

theorem Rnd.of {U U':List Nat} {j Vn:Nat} (hj:j ≤ U.length) (hlen:U'.length = U.length) (hd:Digs BB U') (hr:∀ k,k < j → U'[k]? = U[k]?) (hl:val BB (U'.drop j) + Vn * (val BB (U.drop j) / Vn) = val BB (U.drop j)):Rnd U U' j Vn:=by
 refine ⟨hlen,hd,?_,?_⟩
 ·rw [val_take_drop BB U' j (by omega),val_take_drop BB U j hj,take_same hr,← hl,Nat.mul_add]
  have e:(val BB (U'.drop j) + Vn * (val BB (U.drop j) / Vn)) = val BB (U.drop j):=hl
  rw [e]
  omega
 ·have:=Nat.div_add_mod (val BB (U.drop j)) Vn
  omega

section
variable {U U' V:List Nat} {j n g c br:Nat}
theorem AwSt.drop (h:AwSt U V j g (n + 1) (n + 1) U' c br) (hV:V.length = n) (hj:j ≤ U.length):val BB (U.drop j) + BB ^ (n + 1) * (br + c) = val BB (U'.drop j) + val BB V * g:=by
 have hv:=h.val_
 rw [List.take_of_length_le (by omega),val_take_drop BB U j hj,val_take_drop BB U' j (by rw [h.len]; exact hj),take_same (fun k hk=>h.rest k (.inl hk)),Nat.pow_add,Nat.mul_assoc] at hv
 have hp:0 < BB ^ j:=Nat.pow_pos (by rw [BB_eq]; omega)
 apply Nat.eq_of_mul_eq_mul_left hp
 generalize BB ^ (n + 1) * (br + c) = R at hv ⊢
 generalize BB ^ j = Z at hv ⊢
 rw [Nat.mul_add,Nat.mul_add]
 omega
theorem AwSt.top (h:AwSt U V j g (n + 1) (n + 1) U' c br) (hD:val BB (U.drop j) < BB ^ (n + 1)) (hl:j + n + 1 ≤ U.length):val BB (U'.drop j) < BB ^ (n + 1):=by
 have h0:=drop_zero_of hD
 rw [List.drop_drop] at h0
 have h1:val BB (U'.drop (j + (n + 1))) = 0:=by rw [drop_same (fun k hk=>h.rest k (.inr hk))]; exact h0
 rw [val_take_drop BB (U'.drop j) (n + 1) (by rw [List.length_drop,h.len]; omega),List.drop_drop,h1]
 have:=val_lt ((h.digs.drop j).take (n + 1))
 rw [List.length_take,List.length_drop,h.len,Nat.min_eq_left (by omega)] at this
 rw [Nat.mul_zero,Nat.add_zero]
 exact this
theorem AwSt.nocar (h:AwSt U V j g (n + 1) (n + 1) U' c br) (hV:V.length = n) (hVn:val BB V < BB ^ n) (hg:g < BB):c = 0:=by
 have hc:=h.cv
 rw [List.take_of_length_le (by omega)] at hc
 have h1:val BB V * g ≤ BB ^ n * g:=Nat.mul_le_mul_right _ (by omega)
 have h2:BB ^ n * g < BB ^ n * BB:=Nat.mul_lt_mul_of_pos_left hg (Nat.pow_pos (by rw [BB_eq]; omega))
 rcases Nat.eq_zero_or_pos c with h0 | h0
 ·exact h0
 ·have:BB ^ (n + 1) * 1 ≤ BB ^ (n + 1) * c:=Nat.mul_le_mul_left _ h0
  rw [← Nat.pow_succ] at h2
  generalize BB ^ (n + 1) = R at *
  generalize BB ^ n = Z at *
  omega
theorem AwSt.good (h:AwSt U V j g (n + 1) (n + 1) U' c 0) (hV:V.length = n) (hVn:val BB V < BB ^ n) (hl:j + n + 1 ≤ U.length) (hg:g < BB) (hq:val BB (U.drop j) / val BB V ≤ g) (hp:0 < val BB V):g = val BB (U.drop j) / val BB V ∧ Rnd U U' j (val BB V):=by
 have hc:=h.nocar hV hVn hg
 subst hc
 have hd:=h.drop hV (by omega)
 rw [Nat.zero_add,Nat.mul_zero,Nat.add_zero] at hd
 have hgq:g ≤ val BB (U.drop j) / val BB V:=(Nat.le_div_iff_mul_le hp).2 (by rw [Nat.mul_comm]; omega)
 have he:g = val BB (U.drop j) / val BB V:=by omega
 refine ⟨he,Rnd.of (by omega) h.len h.digs (fun k hk=>h.rest k (.inl hk)) ?_⟩
 rw [← he]
 omega
theorem AwSt.bad {U'':List Nat} {c2:Nat} (h:AwSt U V j g (n + 1) (n + 1) U' c 1) (h2:BkSt U' V j (n + 1) (n + 1) U'' c2) (hV:V.length = n) (hVn:val BB V < BB ^ n) (hl:j + n + 1 ≤ U.length) (hD:val BB (U.drop j) < BB ^ (n + 1)) (hg:g < BB) (hq:g ≤ val BB (U.drop j) / val BB V + 1) (hp:0 < val BB V) :
  g = val BB (U.drop j) / val BB V + 1 ∧ Rnd U U'' j (val BB V):=by
 have hc:=h.nocar hV hVn hg
 subst hc
 have hd:=h.drop hV (by omega)
 have ht:=h.top hD hl
 rw [Nat.add_zero,Nat.mul_one] at hd
 have hgt:val BB (U.drop j) < val BB V * g:=by
  generalize BB ^ (n + 1) = R at hd ht
  omega
 have hgq:val BB (U.drop j) / val BB V < g:=(Nat.div_lt_iff_lt_mul hp).2 (by rw [Nat.mul_comm]; exact hgt)
 have he:g = val BB (U.drop j) / val BB V + 1:=by omega
 have hv2:=h2.val_
 rw [List.take_of_length_le (by omega),val_take_drop BB U' j (by rw [h.len]; omega),val_take_drop BB U'' j (by rw [h2.len,h.len]; omega),take_same (fun k hk=>h2.rest k (.inl hk)),Nat.pow_add,Nat.mul_assoc] at hv2
 have hpj:0 < BB ^ j:=Nat.pow_pos (by rw [BB_eq]; omega)
 have hd2:val BB (U'.drop j) + val BB V = val BB (U''.drop j) + BB ^ (n + 1) * c2:=by
  apply Nat.eq_of_mul_eq_mul_left hpj
  generalize BB ^ (n + 1) * c2 = R at hv2 ⊢
  generalize BB ^ j = Z at hv2 ⊢
  rw [Nat.mul_add,Nat.mul_add]
  omega
 have ht2:val BB (U''.drop j) < BB ^ (n + 1):=by
  have h0:=drop_zero_of hD
  rw [List.drop_drop] at h0
  have h1:val BB (U''.drop (j + (n + 1))) = 0:=by
   rw [drop_same (fun k hk=>h2.rest k (.inr hk)),drop_same (fun k hk=>h.rest k (.inr hk))]; exact h0
  rw [val_take_drop BB (U''.drop j) (n + 1) (by rw [List.length_drop,h2.len,h.len]; omega),List.drop_drop,h1]
  have:=val_lt ((h2.digs.drop j).take (n + 1))
  rw [List.length_take,List.length_drop,h2.len,h.len,Nat.min_eq_left (by omega)] at this
  rw [Nat.mul_zero,Nat.add_zero]
  exact this
 have hdm:=Nat.div_mul_le_self (val BB (U.drop j)) (val BB V)
 have hge:val BB V * g = val BB V * (val BB (U.drop j) / val BB V) + val BB V:=by rw [he,Nat.mul_add,Nat.mul_one]
 rw [Nat.mul_comm] at hdm
 have hvv:=h2.digs
 clear hv2
 have hcar:=h2.car
 generalize BB ^ (n + 1) = R at *
 have hc2:c2 = 1:=by
  have:=hcar
  rcases Nat.eq_zero_or_pos c2 with h0 | h0
  ·subst h0; omega
  ·omega
 subst hc2
 refine ⟨he,Rnd.of (by omega) (h2.len.trans h.len) h2.digs (fun k hk=>(h2.rest k (.inl hk)).trans (h.rest k (.inl hk))) ?_⟩
 omega
end

structure LgSt (At Vn mm k:Nat) (U out:List Nat):Prop where
 dU:Digs BB U
 len:out.length = mm
 digs:Digs BB out
 val_:At = val BB U + Vn * (BB ^ k * val BB (out.drop k))
 left:val BB (U.drop k) < Vn

theorem LgSt.next {At Vn mm j:Nat} {U U' out:List Nat} (h:LgSt At Vn mm (j + 1) U out) (hj:j < mm) (hp:0 < Vn) (hr:Rnd U U' j Vn) (hq:val BB (U.drop j) / Vn < BB):LgSt At Vn mm j U' (out.set j (val BB (U.drop j) / Vn)):=by
 have hjo:j < out.length:=by rw [h.len]; exact hj
 refine ⟨hr.digs,by simp [h.len],h.digs.set hq,?_,by rw [hr.left]; exact Nat.mod_lt _ hp⟩
 have e1:(out.set j (val BB (U.drop j) / Vn)).drop j = val BB (U.drop j) / Vn :: out.drop (j + 1):=by
  rw [List.drop_eq_getElem_cons (by simpa using hjo),List.getElem_set_self,List.drop_set_of_lt (by omega)]
 rw [e1,h.val_,← hr.val_]
 simp only [val]
 rw [Nat.mul_add (BB ^ j),Nat.mul_add Vn,Nat.pow_succ,Nat.mul_assoc (BB ^ j) BB,← Nat.mul_assoc Vn (BB ^ j) (val BB (U.drop j) / Vn),Nat.mul_comm Vn (BB ^ j),Nat.mul_assoc (BB ^ j) Vn]
 omega
end Go.Proofs.Ytphjffbldhhdiaa

namespace Go.Proofs.Ytphjffbldhhdiaa
open Go.RowKit

theorem no_carry {v R c x:Nat} (h:v + R * c = x) (hx:x < R):c = 0 ∧ v = x:=by
 rcases Nat.eq_zero_or_pos c with h0 | h0
 ·subst h0; rw [Nat.mul_zero] at h; omega
 ·have:R * 1 ≤ R * c:=Nat.mul_le_mul_left _ h0
  omega

theorem start_nums {a b v u bt bl t cU cV P1 PA PM d tk:Nat} (hA:a < PA) (hbv:b = bl + P1 * bt) (hbl:bl < P1) (hb0:1 ≤ bt) (ht1:1 ≤ t) (ht9:t < BB) (htm:t * (bt + 1) ≤ BB) (hvU:u + PA * BB * cU = a * t) (hvV:v + P1 * BB * cV = b * t) (hPM:PM * P1 = PA) (hud:u = tk + PM * d) :
  v = b * t ∧ v < P1 * BB ∧ P1 ≤ v ∧ u = a * t ∧ d < v:=by
 have hP1:0 < P1:=by omega
 have hB1:b < P1 * (bt + 1):=by rw [hbv,Nat.mul_add,Nat.mul_one]; omega
 have hB2:P1 ≤ b:=by
  rw [hbv]
  have:P1 * 1 ≤ P1 * bt:=Nat.mul_le_mul_left _ hb0
  omega
 have hBt2:b * t < P1 * BB:=by
  have h1:b * t < P1 * (bt + 1) * t:=Nat.mul_lt_mul_of_pos_right hB1 (by omega)
  have h2:P1 * (bt + 1) * t ≤ P1 * BB:=by
   rw [Nat.mul_assoc]
   apply Nat.mul_le_mul_left
   rw [Nat.mul_comm]
   exact htm
  exact Nat.lt_of_lt_of_le h1 h2
 obtain ⟨-,hV⟩:=no_carry hvV hBt2
 have hA1:a * t < PA * BB:=Nat.mul_lt_mul'' hA ht9
 obtain ⟨-,hU⟩:=no_carry hvU hA1
 have hVge:P1 * t ≤ v:=by rw [hV]; exact Nat.mul_le_mul_right _ hB2
 refine ⟨hV,by rw [hV]; exact hBt2,?_,hU,?_⟩
 ·have:P1 * 1 ≤ P1 * t:=Nat.mul_le_mul_left _ ht1
  omega
 ·have h2:PM * d < PM * (P1 * t):=by
   rw [← Nat.mul_assoc,hPM]
   have h3:a * t < PA * t:=Nat.mul_lt_mul_of_pos_right hA (by omega)
   omega
  have h4:=Nat.lt_of_mul_lt_mul_left h2
  omega

theorem long_start {A B U0 V:List Nat} {m t cU cV mm:Nat} (dA:Digs BB A) (cB:Canon BB B) (hBl:B.length = m + 2) (hmm:mm + (m + 1) = A.length) (hb0:1 ≤ B[m + 1]'(by omega)) (ht1:1 ≤ t) (ht9:t < BB) (htm:t * (B[m + 1]'(by omega) + 1) ≤ BB)
  (lU0:U0.length = A.length + 1) (dU0:Digs BB U0) (hvU0:Hid (val BB U0 + BB ^ (A.length + 1) * cU = val BB (A.take (A.length + 1)) * t)) (hvV:Hid (val BB V + BB ^ (m + 2) * cV = val BB (B.take (m + 2)) * t)) :
  val BB V = val BB B * t ∧ Hid (val BB V < BB ^ (m + 2)) ∧ Hid (BB ^ (m + 1) ≤ val BB V) ∧ LgSt (val BB A * t) (val BB V) mm mm U0 (List.replicate mm 0):=by
 have l1:min (m + 1) B.length = m + 1:=by omega
 have l2:m + 1 < B.length:=by omega
 have l3:B.length ≤ m + 1 + 1:=by omega
 have l4:mm ≤ U0.length:=by omega
 have l5:A.length ≤ A.length + 1:=by omega
 have l6:B.length ≤ m + 2:=by omega
 have hBv:val BB B = val BB (B.take (m + 1)) + BB ^ (m + 1) * B[m + 1]:=by
  rw [val_take_drop BB B (m + 1) (Nat.le_of_lt l2),List.drop_eq_getElem_cons l2,List.drop_of_length_le l3]
  simp [val]
 have hBt:=val_lt (cB.1.take (m + 1))
 rw [List.length_take,l1] at hBt
 have hU:=hvU0.out
 have hV:=hvV.out
 rw [List.take_of_length_le l5,Nat.pow_succ] at hU
 rw [List.take_of_length_le l6,Nat.pow_succ] at hV
 have hPM:BB ^ mm * BB ^ (m + 1) = BB ^ A.length:=by rw [← Nat.pow_add,hmm]
 obtain ⟨h1,h2,h3,h4,h5⟩:=start_nums (val_lt dA) hBv hBt hb0 ht1 ht9 htm hU hV hPM (val_take_drop BB U0 mm l4)
 refine ⟨h1,h2,h3,⟨dU0,List.length_replicate,?_,?_,h5⟩⟩
 ·intro d hd
  have:=List.eq_of_mem_replicate hd
  rw [this,BB_eq]; decide
 ·rw [h4,List.drop_of_length_le (by rw [List.length_replicate]; exact Nat.le_refl _)]
  simp [val]

theorem round_nums {u d v P1 D:Nat} (hu:u < BB) (hD:D = u + BB * d) (hleft:d < v) (hV1:v < P1):D < v * BB ∧ D < P1 * BB:=by
 have h1:D < v * BB:=by
  have:BB * (d + 1) ≤ BB * v:=Nat.mul_le_mul_left _ hleft
  rw [Nat.mul_add,Nat.mul_one] at this
  rw [hD,Nat.mul_comm v]
  omega
 exact ⟨h1,Nat.lt_trans h1 (Nat.mul_lt_mul_of_pos_right hV1 (by rw [BB_eq]; decide))⟩
theorem top_nums {v v' v2 v1 Z:Nat} (hv':v' < Z) (hv2:v2 < BB) (ev:v = v' + Z * (v2 + BB * v1)) (h:Z * BB ≤ v):1 ≤ v1:=by
 rcases Nat.eq_zero_or_pos v1 with h0 | h0
 ·rw [h0,Nat.mul_zero,Nat.add_zero] at ev
  have h3:Z * (v2 + 1) ≤ Z * BB:=Nat.mul_le_mul_left _ hv2
  rw [Nat.mul_add,Nat.mul_one] at h3
  omega
 ·exact h0

theorem round_kn {U V:List Nat} {j m la:Nat} (dU:Digs BB U) (dV:Digs BB V) (lU:U.length = la + 1) (lV:V.length = m + 2) (hj:j + (m + 3) ≤ la + 1) (hleft:val BB (U.drop (j + 1)) < val BB V) (hV1:Hid (val BB V < BB ^ (m + 2))) (hV2:Hid (BB ^ (m + 1) ≤ val BB V)) :
  val BB (U.drop j) < val BB V * BB ∧ Hid (val BB (U.drop j) < BB ^ (m + 3)) ∧ ∃ P u' v',Kn P (val BB (U.drop j)) (val BB V) u' (U[j + m]'(by omega)) (U[j + m + 1]'(by omega)) (U[j + m + 2]'(by omega)) v' (V[m]'(by omega)) (V[m + 1]'(by omega)):=by
 have l1:j < U.length:=by omega
 have l2:m + 3 ≤ (U.drop j).length:=by rw [List.length_drop]; omega
 have l3:((U.drop j).take (m + 3)).length = m + 3:=by rw [List.length_take,Nat.min_eq_left l2]
 have k1:m < V.length:=by omega
 have k2:m + 1 < V.length:=by omega
 have k3:j + m < U.length:=by omega
 have k4:j + m + 1 < U.length:=by omega
 have k5:j + m + 2 < U.length:=by omega
 obtain ⟨h1,h2'⟩:=round_nums (dU.at l1) (val_at l1) hleft hV1.out
 have h2:val BB (U.drop j) < BB ^ (m + 3):=by rw [Nat.pow_succ]; exact h2'
 refine ⟨h1,hide h2,?_⟩
 have hz:=drop_zero_of h2
 have hw:val BB ((U.drop j).take (m + 3)) = val BB (U.drop j):=by
  have h:=val_take_drop BB (U.drop j) (m + 3) l2
  rw [hz,Nat.mul_zero,Nat.add_zero] at h
  exact h.symm
 obtain ⟨u',hu',eu⟩:=val_three (u:=(U.drop j).take (m + 3)) (n:=m) l3 ((dU.drop j).take _)
 obtain ⟨v',hv',ev⟩:=val_two (v:=V) (n:=m) lV dV
 rw [hw] at eu
 simp only [List.getElem_take,List.getElem_drop] at eu
 have hV2':=hV2.out
 rw [Nat.pow_succ] at hV2'
 exact ⟨BB ^ m,u',v',⟨eu,ev,hu',hv',dU.at k3,dU.at k4,dV.at k1,top_nums hv' (dV.at k1) ev hV2',h1⟩⟩

set_option maxRecDepth 100000 in
theorem run_cut32 (w:World) (G len cap l h:Nat) (x y:Int) (hx:x = (l:Int)) (hy:y = (h:Int)) (h1:l ≤ h) (h2:h ≤ cap) (h3:l < cap) :
  (Instr.slice 36 (.slice (some ⟨G,0,none⟩) len cap) (some (.int .i64 x)) (some (.int .i64 y)) none).run Try.prog w = .ok (.slice (some ⟨G,l,none⟩) (h - l) (cap - l)) w:=by
 subst hx hy
 rw [run_slice_lh (P:=Try.prog) w 36 (some ⟨G,0,none⟩) len cap Try.underlying36 .i64 .i64 (l:Int) (h:Int) (by omega) (by omega) (by omega)]
 rw [elem32,size_u32]
 have e:¬ cap = l:=by omega
 simp [Result.andThen,sliced,e,add_plain]

theorem DRow.grown {k:IntKind} {t:TypeId} {w w':World} {g G:Nat} {ds:List Nat} (h:DRow k t w g ds) (hg:w.grownBy w' (some G)) (hne:g ≠ G):DRow k t w' g ds:=Blk.grown h hg (by simpa using hne)

def LgPost (w:World) (A B:List Nat) (e:Ending) (w':World):Prop:=
 ∃ a1 c1 out a2 c2 left,e = .returned (.tuple #[.slice a1 (List.length out) c1,.slice a2 (List.length left) c2]) ∧ Fit a1 out.length c1 ∧ Fit a2 left.length c2 ∧ Dg .u32 w' a1 out ∧ Dg .u32 w' a2 left ∧ Digs BB out ∧ Digs BB left ∧ val BB out = val BB A / val BB B ∧ val BB left = val BB A % val BB B ∧ out.length ≤ A.length ∧ left.length ≤ B.length ∧ Below w.heap.size w w'

theorem scale_back {A B t U Q:Nat} (ht:1 ≤ t) (h:A * t = U + B * t * Q) (hU:U < B * t):Q = A / B ∧ U / t = A % B:=by
 have hB:0 < B:=by
  rcases Nat.eq_zero_or_pos B with h0 | h0
  ·subst h0; simp at hU
  ·exact h0
 have hq:Q = A / B:=by
  have h1:Q * (B * t) ≤ A * t:=by rw [h,Nat.mul_comm Q]; omega
  have h2:A * t < (Q + 1) * (B * t):=by rw [h,Nat.add_mul,Nat.one_mul,Nat.mul_comm Q]; omega
  have h3:Q * B ≤ A:=by
   rw [← Nat.mul_assoc] at h1
   exact Nat.le_of_mul_le_mul_right h1 (by omega)
  have h4:A < (Q + 1) * B:=by
   rw [← Nat.mul_assoc] at h2
   exact Nat.lt_of_mul_lt_mul_right h2
  have h5:Q ≤ A / B:=(Nat.le_div_iff_mul_le hB).2 h3
  have h6:A / B < Q + 1:=(Nat.div_lt_iff_lt_mul hB).2 h4
  omega
 refine ⟨hq,?_⟩
 have hdm:=Nat.div_add_mod A B
 have hU2:U = (A % B) * t:=by
  have h7:(B * (A / B) + A % B) * t = U + B * t * Q:=by rw [hdm,h]
  rw [Nat.add_mul,← hq] at h7
  have h8:B * Q * t = B * t * Q:=by rw [Nat.mul_assoc,Nat.mul_comm Q t,← Nat.mul_assoc]
  omega
 rw [hU2,Nat.mul_div_cancel _ (by omega)]

structure LoopSt (w:World) (G G2 G3:Nat) (At mm la k:Nat) (V U out:List Nat) (wr:World):Prop where
 st:LgSt At (val BB V) mm k U out
 rU:DRow .u32 85 wr G U
 rV:DRow .u32 85 wr G2 V
 rO:DRow .u32 85 wr G3 out
 lU:U.length = la + 1
 bel:Below w.heap.size w wr

theorem long_end {A B t mm:Nat} {V U out:List Nat} (ht:1 ≤ t) (h:LgSt (A * t) (val BB V) mm 0 U out) (hV:Hid (val BB V = B * t)):val BB out = A / B ∧ val BB U / t = A % B:=by
 have h1:=h.val_
 have h2:=h.left
 rw [List.drop_zero,Nat.pow_zero,Nat.one_mul,hV.out] at h1
 rw [List.drop_zero,hV.out] at h2
 exact scale_back ht h1 h2

theorem take_keeps {At mm n:Nat} {V U out:List Nat} (h:LgSt At (val BB V) mm 0 U out) (hV:Hid (val BB V < BB ^ n)) (hl:n ≤ U.length):val BB (U.take n) = val BB U:=by
 have h2:=h.left
 rw [List.drop_zero] at h2
 rw [val_take_drop BB U n hl,drop_zero_of (Nat.lt_trans h2 hV.out),Nat.mul_zero,Nat.add_zero]

set_option maxRecDepth 100000 in
set_option maxHeartbeats 3200000 in
theorem long_any (p q:Option Addr) (cp cq:Nat) (A B:List Nat) (m:Nat) (w:World) (hA:Dg .u32 w p A) (hB:Dg .u32 w q B) (dA:Digs BB A) (cB:Canon BB B) (hBl:B.length = m + 2) (hle:m + 2 ≤ A.length) (hAn:A.length ≤ 1099511627776) :
  Calls Try.prog 85 #[.slice p A.length cp,.slice q B.length cq] w (LgPost w A B):=by
 generalize hP:LgPost w A B = Post
 have HP:=hide hP
 clear hP
 obtain ⟨b1,o1,hq',hc1,hl1⟩:=hB.at (i:=m + 1) (by omega)
 have hbt:=cB.1.at (i:=m + 1) (by omega)
 have hbt0:1 ≤ B[m + 1]'(by omega):=by
  rcases snoc_cases B with h | ⟨r,d,h⟩
  ·rw [h] at hBl; simp at hBl
  ·have h1:=cB.2
   have h2:B[m + 1]'(by omega) = d:=by
    have hr:r.length = m + 1:=by rw [h] at hBl; simp at hBl; exact hBl
    have:B[m + 1]? = some d:=by rw [h,← hr]; simp
    rw [List.getElem?_eq_getElem (by omega)] at this
    exact Option.some.inj this
   rw [h] at h1
   simp at h1
   omega
 have HBV:=hide (val_two hBl cB.1)
 generalize hbte:B[m + 1]'(by omega) = bt at hc1 hbt hbt0
 rw [BB_eq] at hbt
 subst hq'
 obtain ⟨t,htd⟩:∃ t:Nat,t = 1000000000 / (bt + 1):=⟨_,rfl⟩
 have ht1:1 ≤ t:=by rw [htd]; exact (Nat.le_div_iff_mul_le (by omega)).2 (by omega)
 have ht9:t < 1000000000:=by rw [htd]; exact Nat.div_lt_self (by omega) (by omega)
 have htm:t * (bt + 1) ≤ 1000000000:=by rw [htd]; exact Nat.div_mul_le_self _ _
 have hti:(1000000000:Int) / ((bt:Int) + 1) = (t:Int):=by rw [htd,Int.natCast_ediv]; rfl
 clear htd
 go_enter Try.func85,Try.ntmps85
 rw [hBl]
 have hsA:=scaled_any p cp A t (A.length + 1) w hA dA ht9 (by omega)
 rw [show ((A.length + 1:Nat):Int) = (A.length:Int) + 1 by omega] at hsA
 go_wp2_with fail
 refine hsA.mono ?_
 clear hsA
 rintro e w1 ⟨U0,cU,rfl,lU0,rU0,dU0,hvU0,hb1⟩
 have hsB:=scaled_any (some ⟨b1,o1,none⟩) cq B t (m + 2) w1 (hB.below hb1 (Nat.le_refl _)) cB.1 ht9 (by omega)
 rw [hBl,show ((m + 2:Nat):Int) = (m:Int) + 2 by omega] at hsB
 go_wp2_with fail
 refine hsB.mono ?_
 clear hsB
 rintro e w2 ⟨V,cV,rfl,lV,rV,dV,hvV,hb2⟩
 have hG12:w.heap.size < w1.heap.size:=rU0.lt
 have hG2':w1.heap.size < w2.heap.size:=rV.lt
 replace rU0:=rU0.below hb2 hG12
 go_wp2_with (at_make; refine wpList_make_zero rfl _ _ rfl _ _ (A.length - (m + 2) + 1) rfl rfl (by omega) (by omega) (by omega) ?_)
 intro w3 rO hb3
 replace rU0:=rU0.below hb3 (by omega)
 replace rV:=rV.below hb3 hG2'
 have hBel:Below w.heap.size w w3:=hb1.trans ((hb2.trans (hb3.mono (by omega))).mono (by omega))
 clear hb1 hb2 hb3
 obtain ⟨mm,hmm⟩:∃ mm:Nat,mm + (m + 1) = A.length:=⟨A.length - (m + 1),by omega⟩
 have HU0:=hide hvU0
 have HV0:=hide hvV
 clear hvU0 hvV
 rw [← hbte] at hbt0 htm
 obtain ⟨hVB,HV1,HV2,hL0⟩:=long_start dA cB hBl hmm hbt0 ht1 (by rw [BB_eq]; exact ht9) (by rw [BB_eq]; exact htm) lU0 dU0 HU0 HV0
 have HVB:=hide hVB
 have hVp:0 < val BB V:=Nat.lt_of_lt_of_le (Nat.pow_pos (by rw [BB_eq]; decide)) HV2.out
 rw [show A.length - (m + 2) + 1 = mm by omega] at rO ⊢
 rw [show (A.length:Int) - ((m:Int) + 2) + 1 = (mm:Int) by omega]
 have s0:LoopSt w w.heap.size w1.heap.size w2.heap.size (val BB A * t) mm A.length mm V U0 (List.replicate mm 0) w3:=⟨hL0,rU0,rV,rO,lU0,hBel⟩
 have HMM:=hide hmm
 have hml:m + 3 ≤ 1099511627779:=by omega
 have hmmA:mm ≤ A.length:=by omega
 clear hVB HU0 HV0 hL0 rU0 rV rO lU0 hBel dU0 hmm hbte hbt0 htm hbt hti hc1 HBV
 go_wp2_with fail
 go_loopg [11] mm (fun k v wr=>∃ (U out:List Nat),k ≤ mm ∧ v = .int .i64 ((k:Int) - 1) ∧ LoopSt w w.heap.size w1.heap.size w2.heap.size (val BB A * t) mm A.length k V U out wr)
 case atStart=>exact ⟨_,_,Nat.le_refl _,rfl,s0⟩
 case round=>
  obtain ⟨U,out,hk,rfl,s⟩:=hrel
  clear s0
  obtain ⟨GG,hGG⟩:∃ GG:Nat,GG = w.heap.size:=⟨_,rfl⟩
  have hUn:U.length ≤ 2199023255552:=by rw [s.lU]; omega
  rcases gk with _ | j
  ·obtain ⟨hQ,hR⟩:=long_end ht1 s.st HVB
   have hU2:=take_keeps (U:=U) (n:=m + 2) s.st HV1 (by rw [s.lU]; omega)
   have hl2:(U.take (m + 2)).length = m + 2:=by rw [List.length_take,s.lU]; omega
   have hs1:=fun w=>run_upto32 w (some ⟨GG,0,none⟩) (A.length + 1) (A.length + 1) (m + 2) ((m:Int) + 2) (by omega) (by omega)
   rw [hGG] at hs1
   have hsh:=short_any (some ⟨w.heap.size,0,none⟩) (A.length + 1) (U.take (m + 2)) t wr (s.rU.dg.take _) (s.st.dU.take _) (by rw [hl2]; omega) ht1 (by omega)
   rw [hl2] at hsh
   have HQ:=hide hQ
   have HR:=hide hR
   have HU2:=hide hU2
   have HS:=hide s
   have hlo:=s.st.len
   clear hQ hR hU2 s
   rw [show (((0:Nat):Int) - 1) = -1 by omega]
   go_wp2_with fail
   refine hsh.mono ?_
   clear hsh
   rintro e w4 ⟨a,cap,lf,rfl,hfit,hdg,hds,hv,hln,hbl⟩
   rw [HU2.out,HR.out] at hv
   rw [hl2] at hln
   go_wp2_with fail
   rw [← HP.out]
   have hrO:=HS.out.rO
   refine ⟨some ⟨w2.heap.size,0,none⟩,mm,out,a,cap,lf,?_,⟨by omega,fun h=>by cases h⟩,hfit,(hrO.below hbl hrO.lt).dg,hdg,HS.out.st.digs,hds,HQ.out,hv,by omega,by omega,HS.out.bel.trans (hbl.mono HS.out.bel.size)⟩
   rw [hlo,hln]
   rfl
  ·have hjl:j + (m + 3) ≤ A.length + 1:=by have:=HMM.out; omega
   obtain ⟨hD1,HD2,P,u',v',hkn⟩:=round_kn s.st.dU dV s.lU lV hjl s.st.left HV1 HV2
   have hs1:=fun w=>run_cut32 w GG (A.length + 1) (A.length + 1) j (j + (m + 3)) (j:Int) ((j:Int) + ((m:Int) + 2) + 1) rfl (by omega) (by omega) (by omega) (by omega)
   simp only [Nat.add_sub_cancel_left] at hs1
   rw [hGG] at hs1
   have hgu:=guessed_any w.heap.size j m (A.length + 1 - j) (some ⟨w1.heap.size,0,none⟩) (m + 2) U V wr s.rU s.st.dU (by rw [s.lU]; omega) hUn s.rV.dg dV lV _ _ P u' v' hkn
   rw [show (((j + 1:Nat):Int) - 1) = (j:Int) by omega]
   go_wp2_with fail
   refine hgu.mono ?_
   clear hgu
   rintro e w4 ⟨g,n,rfl,hg9,hgq,hgq1,rfl⟩
   have hg9':g < 1000000000:=by rw [BB_eq] at hg9; exact hg9
   have hap:Apart (some ⟨w1.heap.size,0,none⟩) w.heap.size:=fun b o e=>by injection e with e; injection e with e1; omega
   have haw:=takeAway_any w.heap.size j (m + 3) (A.length + 1 - j) (some ⟨w1.heap.size,0,none⟩) (m + 2) U V g (wr.drewN n) s.rU s.st.dU (by rw [s.lU]; omega) hUn s.rV.dg hap dV hg9'
   rw [lV] at haw
   go_wp2_with fail
   refine haw.mono ?_
   clear haw
   rintro e w5 ⟨U1,c,br,rfl,rU1,hAw,hgr,hsz⟩
   have hbor:=hAw.bor
   have hjU:j + (m + 2) + 1 ≤ U.length:=by rw [s.lU]; omega
   have hjm:j < mm:=by omega
   have rV5:=(show DRow .u32 85 (wr.drewN n) w1.heap.size V from s.rV).grown hgr (by omega)
   have rO5:=(show DRow .u32 85 (wr.drewN n) w2.heap.size out from s.rO).grown hgr (by omega)
   have bel5:Below w.heap.size w w5:=(below_drewN s.bel n).trans (below_of_grown hgr (fun g hg=>by injection hg with hg; omega) s.bel.size)
   have hjo:j < out.length:=by rw [s.st.len]; exact hjm
   rcases Nat.eq_zero_or_pos br with h0 | h0
   ·subst h0
    obtain ⟨hge,hR⟩:=AwSt.good (n:=m + 2) hAw lV HV1.out hjU hg9 hgq hVp
    have hst:=s.st.next hjm hVp hR (by rw [← hge]; exact hg9)
    rw [← hge] at hst
    have hco:=rO5.cell hjo
    have hfo:=rO5.frozen j
    have hlU1:U1.length = A.length + 1:=hR.len.trans s.lU
    generalize out[j] = O at hco
    have s2:LoopSt w w.heap.size w1.heap.size w2.heap.size (val BB A * t) mm A.length j V U1 (out.set j g) (w5.setCell ⟨w2.heap.size,j,none⟩ (.int .u32 (g:Int))):=
     ⟨hst,rU1.far (by simp; omega) _,rV5.far (by simp; omega) _,rO5.set j g,hlU1,bel5.setCell (by simp; omega) _⟩
    have HS2:=hide s2
    clear s2 hst hR hge hgq hgq1 hAw hgr hsz s rU1 rV5 rO5 bel5 hkn hD1 HD2 hs1 hGG hlU1
    go_wp2_with fail
    go_roundg j
    case measure=>omega
    case rel=>exact ⟨U1,out.set j g,by omega,rfl,HS2.out⟩
   ·obtain rfl:br = 1:=by omega
    have hpb:=putBack_any w.heap.size j (m + 3) (A.length + 1 - j) (some ⟨w1.heap.size,0,none⟩) (m + 2) U1 V w5 rU1 hAw.digs (by rw [hAw.len,s.lU]; omega) (by rw [hAw.len]; exact hUn) rV5.dg hap dV
    rw [lV] at hpb
    have hg1:1 ≤ g:=by
     have:=(AwSt.drop (n:=m + 2) hAw lV (by omega))
     rcases Nat.eq_zero_or_pos g with h0 | h0
     ·exfalso
      subst h0
      have h1:=AwSt.top (n:=m + 2) hAw HD2.out hjU
      rw [Nat.mul_zero,Nat.add_zero] at this
      have h2:BB ^ (m + 2 + 1) * 1 ≤ BB ^ (m + 2 + 1) * (1 + c):=Nat.mul_le_mul_left _ (by omega)
      generalize BB ^ (m + 2 + 1) = R at *
      omega
     ·exact h0
    go_wp2_with fail
    refine hpb.mono ?_
    clear hpb
    rintro e w6 ⟨U2,c2,rfl,rU2,hBk,hgr2,hsz2⟩
    obtain ⟨hge,hR⟩:=AwSt.bad (n:=m + 2) hAw hBk lV HV1.out hjU HD2.out hg9 hgq1 hVp
    have hge':g - 1 = val BB (U.drop j) / val BB V:=by omega
    have hst:=s.st.next hjm hVp hR (by rw [← hge']; omega)
    rw [← hge'] at hst
    have rV6:=rV5.grown hgr2 (by omega)
    have rO6:=rO5.grown hgr2 (by omega)
    have bel6:Below w.heap.size w w6:=bel5.trans (below_of_grown hgr2 (fun g hg=>by injection hg with hg; omega) bel5.size)
    have hco:=rO6.cell hjo
    have hfo:=rO6.frozen j
    have hlU1:U2.length = A.length + 1:=hR.len.trans s.lU
    generalize out[j] = O at hco
    have s2:LoopSt w w.heap.size w1.heap.size w2.heap.size (val BB A * t) mm A.length j V U2 (out.set j (g - 1)) (w6.setCell ⟨w2.heap.size,j,none⟩ (.int .u32 ((g - 1:Nat):Int))):=
     ⟨hst,rU2.far (by simp; omega) _,rV6.far (by simp; omega) _,rO6.set j (g - 1),hlU1,bel6.setCell (by simp; omega) _⟩
    rw [show ((g - 1:Nat):Int) = (g:Int) - 1 by omega] at s2
    have HS2:=hide s2
    clear s2 hst hR hge hge' hgq hgq1 hAw hBk hgr hgr2 hsz hsz2 s rU1 rU2 rV5 rV6 rO5 rO6 bel5 bel6 hkn hD1 HD2 hs1 hGG hlU1
    go_wp2_with fail
    go_roundg j
    case measure=>omega
    case rel=>exact ⟨U2,out.set j (g - 1),by omega,rfl,HS2.out⟩

def DvPost (w:World) (A B:List Nat) (e:Ending) (w':World):Prop:=
 ∃ a1 c1 out a2 c2 left,e = .returned (.tuple #[.slice a1 (List.length out) c1,.slice a2 (List.length left) c2]) ∧ Fit a1 out.length c1 ∧ Fit a2 left.length c2 ∧ Dg .u32 w' a1 out ∧ Dg .u32 w' a2 left ∧ Digs BB out ∧ Digs BB left ∧ val BB out = val BB A / val BB B ∧ val BB left = val BB A % val BB B ∧ out.length ≤ A.length ∧ left.length ≤ A.length ∧ Below w.heap.size w w'

theorem dg_alloc1 (w:World) (t:TypeId) (d:Nat):Dg .u32 (w.alloc (.cells #[.int .u32 (d:Int)] t)) (some ⟨w.heap.size,0,none⟩) [d]:=
 DRow.dg (k:=.u32) (t:=t) (ds:=[d]) (Blk.new w t _)

set_option maxRecDepth 100000 in
set_option maxHeartbeats 1600000 in
theorem divide_any (p q:Option Addr) (cp cq:Nat) (A B:List Nat) (w:World) (hA:Dg .u32 w p A) (hB:Dg .u32 w q B) (fA:Fit p A.length cp) (cA:Canon BB A) (cB:Canon BB B) (hB0:B ≠ []) (hAn:A.length ≤ 1099511627776) :
    Calls Try.prog 82 #[.slice p A.length cp,.slice q B.length cq] w (DvPost w A B):=by
  generalize hP:DvPost w A B = Post
  have HP:=hide hP
  clear hP
  have hcm:=compare_any p q cp cq A B w hA hB cA cB (by omega)
  have hpos:=Canon.pos (by rw [BB_eq]; decide) cB hB0
  go_enter Try.func82,Try.ntmps82
  go_wp2_with fail
  refine hcm.mono ?_
  clear hcm
  rintro e w1 ⟨rfl,n,rfl⟩
  by_cases hlt:val BB A < val BB B
  · rw [show ordZ (val BB A) (val BB B) = -1 by rw [ordZ,if_pos (by omega)]]
    have hco:=copied_any p cp A (w.drewN n) hA fA cA.1 hAn
    go_wp2_with fail
    refine hco.mono ?_
    clear hco
    rintro e w2 ⟨a,cap,ds,rfl,hf,hd,hds,hv,hl,hb⟩
    go_wp2_with fail
    rw [← HP.out]
    refine ⟨none,0,[],a,cap,ds,?_,⟨Nat.zero_le _,fun _=>rfl⟩,hf,Dg.nil _ _,hd,fun x hx=>by simp at hx,hds,by rw [Nat.div_eq_of_lt hlt]; rfl,by rw [hv,Nat.mod_eq_of_lt hlt],Nat.zero_le _,hl,(below_drewN (Below.refl _ w) n).trans hb⟩
    rfl
  · have hge:(decide (ordZ (val BB A) (val BB B) < 0)) = false:=by
      rw [ordZ,if_neg (by omega)]
      split <;> rfl
    generalize ordZ (val BB A) (val BB B) = oz at hge
    by_cases h1:B.length = 1
    · obtain ⟨d,rfl⟩:∃ d,B = [d]:=by
        rcases B with _ | ⟨d,_ | ⟨e,r⟩⟩
        · exact absurd rfl hB0
        · exact ⟨d,rfl⟩
        · simp at h1
      obtain ⟨b1,o1,rfl,hc1,hl1⟩:=hB.at (i:=0) (by simp)
      have hd9:=cB.1 d (by simp)
      have hvd:val BB [d] = d:=by simp [val]
      rw [hvd] at hlt hpos
      simp only [List.getElem_cons_zero,Nat.add_zero] at hc1
      rw [BB_eq] at hd9
      have hsh:=short_any p cp A d (w.drewN n) hA cA.1 hAn hpos (by omega)
      go_wp2_with fail
      refine hsh.mono ?_
      clear hsh
      rintro e w2 ⟨a,cap,out,rfl,hf,hdg,hds,hv,hl,hb⟩
      go_wp2_with fail
      rw [← HP.out]
      have hA1:1 ≤ A.length:=by
        rcases A with _ | ⟨x,r⟩
        · simp [val] at hlt; omega
        · simp
      have hr9:val BB A % d < BB:=by rw [BB_eq]; exact Nat.lt_trans (Nat.mod_lt _ hpos) hd9
      have hbl:=(below_drewN (Below.refl _ w) n).trans hb
      refine ⟨a,cap,out,some ⟨w2.heap.size,0,none⟩,1,[val BB A % d],?_,hf,⟨Nat.le_refl _,fun h=>by cases h⟩,hdg.below (Below.alloc (Below.refl _ _) (Nat.le_refl _) _) (Nat.le_refl _),dg_alloc1 w2 _ _,hds,fun x hx=>by rw [List.mem_singleton] at hx; rw [hx]; exact hr9,by rw [hvd]; exact hv,by rw [hvd]; simp [val],by omega,hA1,hbl.alloc hbl.size _⟩
      rw [hl]
      rfl
    · obtain ⟨m, hm⟩ : ∃ m, B.length = m + 2 := ⟨B.length - 2, by have : B.length ≠ 0 := by simpa using hB0
                                                                  omega⟩
      have hle:m + 2 ≤ A.length:=by
        rw [← hm]
        rcases Nat.lt_or_ge A.length B.length with h | h
        · exact absurd (cA.lt_of_len cB h) hlt
        · exact h
      have hlg:=long_any p q cp cq A B m (w.drewN n) hA hB cA.1 cB hm hle hAn
      have e1:(((m:Int) + 2) == 1) = false:=by simp; omega
      rw [hm] at hlg ⊢
      go_wp2_with fail
      refine hlg.mono ?_
      clear hlg
      rintro e w2 ⟨a1,c1,out,a2,c2,left,rfl,f1,f2,d1,d2,g1,g2,v1,v2,l1,l2,hb⟩
      go_wp2_with fail
      rw [← HP.out]
      refine ⟨a1,c1,out,a2,c2,left,?_,f1,f2,d1,d2,g1,g2,v1,v2,l1,by omega,(below_drewN (Below.refl _ w) n).trans hb⟩
      rfl

theorem div_of {x y q r:Int} (h:x = y * q + r) (h0:0 ≤ r) (h1:r < y.natAbs):q = x / y ∧ r = x % y:=by
 have hy:y ≠ 0:=by rintro rfl; simp at h1; omega
 have h3:r / y = 0:=by
  rcases Int.lt_or_le y 0 with hn | hn
  ·have h:=Int.ediv_neg r (-y)
   have h':r / -y = 0:=Int.ediv_eq_zero_of_lt h0 (by omega)
   rw [Int.neg_neg,h'] at h
   omega
  ·exact Int.ediv_eq_zero_of_lt h0 (by omega)
 have h2:x / y = q:=by rw [h,Int.add_comm,Int.add_mul_ediv_left _ _ hy,h3,Int.zero_add]
 have h4:=Int.mul_ediv_add_emod x y
 rw [h2] at h4
 exact ⟨h2.symm,by omega⟩

theorem div_nat {x y:Int} (hy:y ≠ 0):∃ q r:Nat,q = x.natAbs / y.natAbs ∧ r = x.natAbs % y.natAbs ∧ r < y.natAbs ∧ (x.natAbs:Int) = (y.natAbs:Int) * (q:Int) + (r:Int):=by
 refine ⟨_,_,rfl,rfl,Nat.mod_lt _ (by omega),?_⟩
 have:=Nat.div_add_mod x.natAbs y.natAbs
 rw [← Int.natCast_mul,← Int.natCast_add,this]

theorem div_pos {x y:Int} (hy:y ≠ 0) (hx:¬ x < 0):signZ (false != decide (y < 0)) (x.natAbs / y.natAbs) = x / y ∧ ((x.natAbs % y.natAbs:Nat):Int) = x % y:=by
 obtain ⟨q,r,e1,e2,hr,he⟩:=div_nat (x:=x) hy
 rw [← e1,← e2]
 refine div_of ?_ (by omega) (by omega)
 by_cases h:y < 0
 ·have:(y.natAbs:Int) = -y:=by omega
  rw [this] at he
  simp only [signZ,h,decide_true,Bool.false_bne,if_true]
  rw [Int.mul_neg,← Int.neg_mul]; omega
 ·have:(y.natAbs:Int) = y:=by omega
  rw [this] at he
  simp only [signZ,h,decide_false,bne_self_eq_false,Bool.false_eq_true,if_false]
  omega

theorem div_neg0 {x y:Int} (hy:y ≠ 0) (hx:x < 0) (h0:x.natAbs % y.natAbs = 0):signZ (true != decide (y < 0)) (x.natAbs / y.natAbs) = x / y ∧ 0 = x % y:=by
 obtain ⟨q,r,e1,e2,hr,he⟩:=div_nat (x:=x) hy
 rw [← e2] at h0
 rw [← e1]
 subst h0
 refine div_of ?_ (by omega) (by omega)
 by_cases h:y < 0
 ·have:(y.natAbs:Int) = -y:=by omega
  rw [this,Int.neg_mul] at he
  simp [signZ,h]
  omega
 ·have:(y.natAbs:Int) = y:=by omega
  rw [this] at he
  simp [signZ,h,Int.mul_neg]
  omega

theorem div_neg1 {x y:Int} (hy:y ≠ 0) (hx:x < 0) (h0:0 < x.natAbs % y.natAbs):signZ (true != decide (y < 0)) (x.natAbs / y.natAbs + 1) = x / y ∧ ((y.natAbs - x.natAbs % y.natAbs:Nat):Int) = x % y:=by
 obtain ⟨q,r,e1,e2,hr,he⟩:=div_nat (x:=x) hy
 rw [← e2] at h0 ⊢
 rw [← e1]
 refine div_of ?_ (by omega) (by omega)
 by_cases h:y < 0
 ·have:(y.natAbs:Int) = -y:=by omega
  rw [this,Int.neg_mul] at he
  simp [signZ,h,Int.mul_add]
  omega
 ·have:(y.natAbs:Int) = y:=by omega
  rw [this] at he
  simp [signZ,h,Int.mul_neg,Int.mul_add]
  omega

def DivPost (w:World) (x y:Int) (e:Ending) (w':World):Prop:=
 ∃ q r,e = .returned (.tuple #[q,r]) ∧ IntV w' q (if y = 0 then 0 else x / y) ∧ IntV w' r (if y = 0 then 0 else x % y) ∧ Below w.heap.size w w'

theorem rest_parts {w:World} {v:Value} {n:Nat} (h:IntV w v (signZ false n)):∃ a cap,v = .agg #[.bool false,.slice a (dg BB n).length cap] ∧ Fit a (dg BB n).length cap ∧ Dg .u32 w a (dg BB n):=by
 have e:signZ false n = (n:Int):=by simp [signZ]
 rw [e] at h
 obtain ⟨a,cap,hv,hf,hd⟩:=h
 have e1:decide ((n:Int) < 0) = false:=by simp
 rw [e1,Int.natAbs_natCast] at hv
 rw [Int.natAbs_natCast] at hf hd
 exact ⟨a,cap,hv,hf,hd⟩

section
variable {w c w1:World} {gs:List Nat} {g2 g3 G:Nat} {p q p' q' r0 r1:Value}
theorem keep3 (h:c.cell? ⟨G,0,none⟩ = some r0 ∧ c.cell? ⟨G,1,none⟩ = some r1 ∧ c.frozen? ⟨G,0,none⟩ = false ∧ c.frozen? ⟨G,1,none⟩ = false ∧ c.cell? ⟨g2,0,none⟩ = some p ∧ c.cell? ⟨g2,1,none⟩ = some q ∧ c.cell? ⟨g3,0,none⟩ = some p' ∧ c.cell? ⟨g3,1,none⟩ = some q' ∧ c.frozen? ⟨g2,0,none⟩ = false ∧ c.frozen? ⟨g2,1,none⟩ = false ∧ c.frozen? ⟨g3,0,none⟩ = false ∧ c.frozen? ⟨g3,1,none⟩ = false ∧ Rs w gs c) (hb:Below c.heap.size c w1):w1.cell? ⟨G,0,none⟩ = some r0 ∧ w1.cell? ⟨G,1,none⟩ = some r1 ∧ w1.frozen? ⟨G,0,none⟩ = false ∧ w1.frozen? ⟨G,1,none⟩ = false ∧ w1.cell? ⟨g2,0,none⟩ = some p ∧ w1.cell? ⟨g2,1,none⟩ = some q ∧ w1.cell? ⟨g3,0,none⟩ = some p' ∧ w1.cell? ⟨g3,1,none⟩ = some q' ∧ w1.frozen? ⟨g2,0,none⟩ = false ∧ w1.frozen? ⟨g2,1,none⟩ = false ∧ w1.frozen? ⟨g3,0,none⟩ = false ∧ w1.frozen? ⟨g3,1,none⟩ = false ∧ Rs w gs w1:=by
 obtain ⟨h1,h2,f1,f2,hS⟩:=h
 have l2:=World.block_lt_of_cell? c _ h1
 exact ⟨(hb.cell l2).trans h1,(hb.cell (p:=⟨G,1,none⟩) l2).trans h2,(hb.frozen l2).trans f1,(hb.frozen (p:=⟨G,1,none⟩) l2).trans f2,keep2 hS hb⟩
theorem keepC3 {g:Nat} (hw:w.heap.size ≤ g) (hg2:g ≠ g2) (hg3:g ≠ g3) (hgG:g ≠ G) (n:Bool) (a:Option Addr) (l m:Nat) (h:c.cell? ⟨G,0,none⟩ = some r0 ∧ c.cell? ⟨G,1,none⟩ = some r1 ∧ c.frozen? ⟨G,0,none⟩ = false ∧ c.frozen? ⟨G,1,none⟩ = false ∧ c.cell? ⟨g2,0,none⟩ = some p ∧ c.cell? ⟨g2,1,none⟩ = some q ∧ c.cell? ⟨g3,0,none⟩ = some p' ∧ c.cell? ⟨g3,1,none⟩ = some q' ∧ c.frozen? ⟨g2,0,none⟩ = false ∧ c.frozen? ⟨g2,1,none⟩ = false ∧ c.frozen? ⟨g3,0,none⟩ = false ∧ c.frozen? ⟨g3,1,none⟩ = false ∧ Rs w gs c):((c.setCell ⟨g,0,none⟩ (.bool n)).setCell ⟨g,1,none⟩ (.slice a l m)).cell? ⟨G,0,none⟩ = some r0 ∧ ((c.setCell ⟨g,0,none⟩ (.bool n)).setCell ⟨g,1,none⟩ (.slice a l m)).cell? ⟨G,1,none⟩ = some r1 ∧ ((c.setCell ⟨g,0,none⟩ (.bool n)).setCell ⟨g,1,none⟩ (.slice a l m)).frozen? ⟨G,0,none⟩ = false ∧ ((c.setCell ⟨g,0,none⟩ (.bool n)).setCell ⟨g,1,none⟩ (.slice a l m)).frozen? ⟨G,1,none⟩ = false ∧ ((c.setCell ⟨g,0,none⟩ (.bool n)).setCell ⟨g,1,none⟩ (.slice a l m)).cell? ⟨g2,0,none⟩ = some p ∧ ((c.setCell ⟨g,0,none⟩ (.bool n)).setCell ⟨g,1,none⟩ (.slice a l m)).cell? ⟨g2,1,none⟩ = some q ∧ ((c.setCell ⟨g,0,none⟩ (.bool n)).setCell ⟨g,1,none⟩ (.slice a l m)).cell? ⟨g3,0,none⟩ = some p' ∧ ((c.setCell ⟨g,0,none⟩ (.bool n)).setCell ⟨g,1,none⟩ (.slice a l m)).cell? ⟨g3,1,none⟩ = some q' ∧ ((c.setCell ⟨g,0,none⟩ (.bool n)).setCell ⟨g,1,none⟩ (.slice a l m)).frozen? ⟨g2,0,none⟩ = false ∧ ((c.setCell ⟨g,0,none⟩ (.bool n)).setCell ⟨g,1,none⟩ (.slice a l m)).frozen? ⟨g2,1,none⟩ = false ∧ ((c.setCell ⟨g,0,none⟩ (.bool n)).setCell ⟨g,1,none⟩ (.slice a l m)).frozen? ⟨g3,0,none⟩ = false ∧ ((c.setCell ⟨g,0,none⟩ (.bool n)).setCell ⟨g,1,none⟩ (.slice a l m)).frozen? ⟨g3,1,none⟩ = false ∧ Rs w gs ((c.setCell ⟨g,0,none⟩ (.bool n)).setCell ⟨g,1,none⟩ (.slice a l m)):=by
 obtain ⟨h1,h2,f1,f2,hS⟩:=h
 refine ⟨?_,?_,by simpa using f1,by simpa using f2,keepC2 hw hg2 hg3 n a l m hS⟩
 ·rw [World.cell?_setCell_other _ _ _ _ (fun e=>hgG (congrArg Addr.block e)),World.cell?_setCell_other _ _ _ _ (fun e=>hgG (congrArg Addr.block e))]; exact h1
 ·rw [World.cell?_setCell_other _ _ _ _ (fun e=>hgG (congrArg Addr.block e)),World.cell?_setCell_other _ _ _ _ (fun e=>hgG (congrArg Addr.block e))]; exact h2
theorem keepSet3 (hw:w.heap.size ≤ G) (hg2:G ≠ g2) (hg3:G ≠ g3) (hgs:G ∉ gs) (x y:Value) (h:c.cell? ⟨G,0,none⟩ = some r0 ∧ c.cell? ⟨G,1,none⟩ = some r1 ∧ c.frozen? ⟨G,0,none⟩ = false ∧ c.frozen? ⟨G,1,none⟩ = false ∧ c.cell? ⟨g2,0,none⟩ = some p ∧ c.cell? ⟨g2,1,none⟩ = some q ∧ c.cell? ⟨g3,0,none⟩ = some p' ∧ c.cell? ⟨g3,1,none⟩ = some q' ∧ c.frozen? ⟨g2,0,none⟩ = false ∧ c.frozen? ⟨g2,1,none⟩ = false ∧ c.frozen? ⟨g3,0,none⟩ = false ∧ c.frozen? ⟨g3,1,none⟩ = false ∧ Rs w gs c):((c.setCell ⟨G,0,none⟩ x).setCell ⟨G,1,none⟩ y).cell? ⟨G,0,none⟩ = some x ∧ ((c.setCell ⟨G,0,none⟩ x).setCell ⟨G,1,none⟩ y).cell? ⟨G,1,none⟩ = some y ∧ ((c.setCell ⟨G,0,none⟩ x).setCell ⟨G,1,none⟩ y).frozen? ⟨G,0,none⟩ = false ∧ ((c.setCell ⟨G,0,none⟩ x).setCell ⟨G,1,none⟩ y).frozen? ⟨G,1,none⟩ = false ∧ ((c.setCell ⟨G,0,none⟩ x).setCell ⟨G,1,none⟩ y).cell? ⟨g2,0,none⟩ = some p ∧ ((c.setCell ⟨G,0,none⟩ x).setCell ⟨G,1,none⟩ y).cell? ⟨g2,1,none⟩ = some q ∧ ((c.setCell ⟨G,0,none⟩ x).setCell ⟨G,1,none⟩ y).cell? ⟨g3,0,none⟩ = some p' ∧ ((c.setCell ⟨G,0,none⟩ x).setCell ⟨G,1,none⟩ y).cell? ⟨g3,1,none⟩ = some q' ∧ ((c.setCell ⟨G,0,none⟩ x).setCell ⟨G,1,none⟩ y).frozen? ⟨g2,0,none⟩ = false ∧ ((c.setCell ⟨G,0,none⟩ x).setCell ⟨G,1,none⟩ y).frozen? ⟨g2,1,none⟩ = false ∧ ((c.setCell ⟨G,0,none⟩ x).setCell ⟨G,1,none⟩ y).frozen? ⟨g3,0,none⟩ = false ∧ ((c.setCell ⟨G,0,none⟩ x).setCell ⟨G,1,none⟩ y).frozen? ⟨g3,1,none⟩ = false ∧ Rs w gs ((c.setCell ⟨G,0,none⟩ x).setCell ⟨G,1,none⟩ y):=by
 obtain ⟨h1,h2,f1,f2,hS⟩:=h
 refine ⟨?_,?_,by simpa using f1,by simpa using f2,keepFar hw hg2 hg3 hgs y (keepFar hw hg2 hg3 hgs x hS)⟩
 ·rw [World.cell?_setCell_other _ _ _ _ (by simp)]; exact World.cell?_setCell_same _ _ _ h1
 ·exact World.cell?_setCell_same _ _ _ ((World.cell?_setCell_other _ _ _ _ (by simp)).trans h2)
end
theorem dg_far {k:IntKind} {w:World} {a:Option Addr} {ds:List Nat} {G:Nat} {n:Bool} {sa:Option Addr} {sl sc:Nat} (h0:w.cell? ⟨G,0,none⟩ = some (.bool n)) (h1:w.cell? ⟨G,1,none⟩ = some (.slice sa sl sc)) (h:Dg k w a ds) (x y:Value):Dg k ((w.setCell ⟨G,0,none⟩ x).setCell ⟨G,1,none⟩ y) a ds:=by
 intro hn
 obtain ⟨p,off,e,hc⟩:=h hn
 refine ⟨p,off,e,fun i hi=>?_⟩
 have n0:(⟨G,0,none⟩:Addr) ≠ ⟨p,off + i,none⟩:=fun e=>by
  have:=hc i hi
  rw [← e,h0] at this
  cases this
 have n1:(⟨G,1,none⟩:Addr) ≠ ⟨p,off + i,none⟩:=fun e=>by
  have:=hc i hi
  rw [← e,h1] at this
  cases this
 rw [World.cell?_setCell_other _ _ _ _ n1,World.cell?_setCell_other _ _ _ _ n0]
 exact hc i hi

theorem fin2 {w c:World} {gs:List Nat} {g4 g5:Nat} {n4 n5:Bool} {a4 a5:Option Addr} {l4 k4 l5 k5:Nat} (h:Rs w gs c) (h4:Blk c g4 38 #[.bool n4,.slice a4 l4 k4]) (h5:Blk c g5 38 #[.bool n5,.slice a5 l5 k5]) (hne:g4 ≠ g5) (hw4:w.heap.size ≤ g4) (hw5:w.heap.size ≤ g5) (n:Bool) (a:Option Addr) (l k:Nat) (n':Bool) (a':Option Addr) (l' k':Nat) :
  let F:=(((c.setCell ⟨g4,0,none⟩ (.bool n)).setCell ⟨g4,1,none⟩ (.slice a l k)).setCell ⟨g5,0,none⟩ (.bool n')).setCell ⟨g5,1,none⟩ (.slice a' l' k')
  (F.cell? ⟨g4,0,none⟩ = some (.bool n) ∧ F.cell? ⟨g4,1,none⟩ = some (.slice a l k) ∧ ∀ i,F.frozen? ⟨g4,i,none⟩ = false) ∧ (F.cell? ⟨g5,0,none⟩ = some (.bool n') ∧ F.cell? ⟨g5,1,none⟩ = some (.slice a' l' k') ∧ ∀ i,F.frozen? ⟨g5,i,none⟩ = false) ∧ Below w.heap.size w F:=by
 intro F
 have k4':=(((h4.two (.bool n) (.slice a l k)).far (p:=⟨g5,0,none⟩) (by simpa using hne) (.bool n')).far (p:=⟨g5,1,none⟩) (by simpa using hne) (.slice a' l' k'))
 have k5':=(((h5.far (p:=⟨g4,0,none⟩) (by simpa using hne.symm) (.bool n)).far (p:=⟨g4,1,none⟩) (by simpa using hne.symm) (.slice a l k)).two (.bool n') (.slice a' l' k'))
 exact ⟨k4'.c2,k5'.c2,(((h.1.setCell hw4 _).setCell hw4 _).setCell hw5 _).setCell hw5 _⟩

theorem rest_intV {w:World} {a:Option Addr} {cap n:Nat} (hf:Fit a (dg BB n).length cap) (hd:Dg .u32 w a (dg BB n)):IntV w (.agg #[.bool false,.slice a (dg BB n).length cap]) (n:Int):=by
 refine ⟨a,cap,?_,?_,?_⟩
 ·rw [show decide ((n:Int) < 0) = false by simp,Int.natAbs_natCast]
 ·rw [Int.natAbs_natCast]; exact hf
 ·rw [Int.natAbs_natCast]; exact hd

theorem rest_nil {n:Nat} (hz:n = 0):∀ (w:World) (a:Option Addr) (cap:Nat),Fit a 0 cap → IntV w (.agg #[.bool false,.slice a 0 cap]) (n:Int):=by
 intro w a cap hf
 subst hz
 exact rest_intV (n:=0) hf (Dg.nil _ _)

theorem store2 {c:World} {v:Value} {z:Int} {g4 g5:Nat} {n4 n5:Bool} {a4 a5:Option Addr} {l4 k4 l5 k5:Nat} (h:IntV c v z) (h4:Blk c g4 38 #[.bool n4,.slice a4 l4 k4]) (h5:Blk c g5 38 #[.bool n5,.slice a5 l5 k5]) (hne:g4 ≠ g5) (x y x' y':Value):IntV ((((c.setCell ⟨g4,0,none⟩ x).setCell ⟨g4,1,none⟩ y).setCell ⟨g5,0,none⟩ x').setCell ⟨g5,1,none⟩ y') v z:=
 (h.store h4 x y).store ((h5.far (p:=⟨g4,0,none⟩) (by simpa using hne.symm) x).far (p:=⟨g4,1,none⟩) (by simpa using hne.symm) y) x' y'

set_option maxRecDepth 100000 in
set_option maxHeartbeats 3200000 in
theorem Div_any {x y:Int} {u v:Value} (w:World) (hx:IntV w u x) (hy:IntV w v y) (hn:Sm x) (hm:Sm y) :
  Calls Try.prog 62 #[u,v] w (DivPost w x y):=by
 generalize hP:DivPost w x y = Post
 have HP:=hide hP
 clear hP
 obtain ⟨a,ca,rfl,ha,hda⟩:=id hx
 obtain ⟨b,cb,rfl,hb,hdb⟩:=id hy
 have HX0:=hx
 have HY0:=hy
 clear hx hy
 have hX0:Blk ((((w.alloc (.cells #[.bool (decide (x < 0)),.slice a (dg BB x.natAbs).length ca] 38)).alloc (.cells #[.bool (decide (y < 0)),.slice b (dg BB y.natAbs).length cb] 38)).alloc (.cells #[.bool false,.slice none 0 0] 38)).alloc (.cells #[.bool false,.slice none 0 0] 38)) w.heap.size 38 #[.bool (decide (x < 0)),.slice a (dg BB x.natAbs).length ca]:=(((Blk.new w _ _).alloc _).alloc _).alloc _
 have hY0:Blk ((((w.alloc (.cells #[.bool (decide (x < 0)),.slice a (dg BB x.natAbs).length ca] 38)).alloc (.cells #[.bool (decide (y < 0)),.slice b (dg BB y.natAbs).length cb] 38)).alloc (.cells #[.bool false,.slice none 0 0] 38)).alloc (.cells #[.bool false,.slice none 0 0] 38)) (w.heap.size + 1) 38 #[.bool (decide (y < 0)),.slice b (dg BB y.natAbs).length cb]:=by
  have h:=Blk.new (w.alloc (.cells #[.bool (decide (x < 0)),.slice a (dg BB x.natAbs).length ca] 38)) 38 #[.bool (decide (y < 0)),.slice b (dg BB y.natAbs).length cb]
  rw [World.size_alloc] at h
  exact (h.alloc _).alloc _
 have hZ0:Blk ((((w.alloc (.cells #[.bool (decide (x < 0)),.slice a (dg BB x.natAbs).length ca] 38)).alloc (.cells #[.bool (decide (y < 0)),.slice b (dg BB y.natAbs).length cb] 38)).alloc (.cells #[.bool false,.slice none 0 0] 38)).alloc (.cells #[.bool false,.slice none 0 0] 38)) (w.heap.size + 1 + 1) 38 #[.bool false,.slice none 0 0]:=by
  have h:=Blk.new ((w.alloc (.cells #[.bool (decide (x < 0)),.slice a (dg BB x.natAbs).length ca] 38)).alloc (.cells #[.bool (decide (y < 0)),.slice b (dg BB y.natAbs).length cb] 38)) 38 #[.bool false,.slice none 0 0]
  simp only [World.size_alloc] at h
  exact h.alloc _
 have hZ1:Blk ((((w.alloc (.cells #[.bool (decide (x < 0)),.slice a (dg BB x.natAbs).length ca] 38)).alloc (.cells #[.bool (decide (y < 0)),.slice b (dg BB y.natAbs).length cb] 38)).alloc (.cells #[.bool false,.slice none 0 0] 38)).alloc (.cells #[.bool false,.slice none 0 0] 38)) (w.heap.size + 1 + 1 + 1) 38 #[.bool false,.slice none 0 0]:=by
  have h:=Blk.new (((w.alloc (.cells #[.bool (decide (x < 0)),.slice a (dg BB x.natAbs).length ca] 38)).alloc (.cells #[.bool (decide (y < 0)),.slice b (dg BB y.natAbs).length cb] 38)).alloc (.cells #[.bool false,.slice none 0 0] 38)) 38 #[.bool false,.slice none 0 0]
  simp only [World.size_alloc] at h
  exact h
 have hR0:Rs w [w.heap.size + 1 + 1,w.heap.size + 1 + 1 + 1] ((((w.alloc (.cells #[.bool (decide (x < 0)),.slice a (dg BB x.natAbs).length ca] 38)).alloc (.cells #[.bool (decide (y < 0)),.slice b (dg BB y.natAbs).length cb] 38)).alloc (.cells #[.bool false,.slice none 0 0] 38)).alloc (.cells #[.bool false,.slice none 0 0] 38)):=by
  refine ⟨((((Below.refl w.heap.size w).alloc (Nat.le_refl _) _).alloc (by simp) _).alloc (by simp; omega) _).alloc (by simp; omega) _,?_⟩
  intro g hg
  simp at hg
  rcases hg with rfl | rfl
  ·exact ⟨_,_,_,_,hZ0⟩
  ·exact ⟨_,_,_,_,hZ1⟩
 go_enter Try.func62,Try.ntmps62
 go_upto_region 1 with (fail)
 generalize (((w.alloc (.cells #[.bool (decide (x < 0)),.slice a (dg BB x.natAbs).length ca] 38)).alloc (.cells #[.bool (decide (y < 0)),.slice b (dg BB y.natAbs).length cb] 38)).alloc (.cells #[.bool false,.slice none 0 0] 38)).alloc (.cells #[.bool false,.slice none 0 0] 38) = W at hX0 hY0 hR0 hZ0 hZ1 ⊢
 clear hZ0 hZ1
 obtain ⟨c0,c1,cf⟩:=hX0.c2
 obtain ⟨d0,d1,df⟩:=hY0.c2
 have hR1:=hR0.drew
 have hwA:w.heap.size ≤ w.heap.size:=Nat.le_refl _
 have hneA:w.heap.size ≠ w.heap.size + 1:=by omega
 have hwB:w.heap.size ≤ w.heap.size + 1:=by omega
 have hneB:w.heap.size + 1 ≠ w.heap.size:=by omega
 have hgA:w.heap.size ∉ [w.heap.size + 1 + 1,w.heap.size + 1 + 1 + 1]:=by simp only [List.mem_cons,List.mem_nil_iff,or_false]; omega
 have hgB:w.heap.size + 1 ∉ [w.heap.size + 1 + 1,w.heap.size + 1 + 1 + 1]:=by simp only [List.mem_cons,List.mem_nil_iff,or_false]; omega
 have f20:=cf 0
 have f21:=cf 1
 have f30:=df 0
 have f31:=df 1
 have cxn:=dg_canon BB2 x.natAbs
 have cyn:=dg_canon BB2 y.natAbs
 have dxn:Digs BB (dg BB x.natAbs):=cxn.1
 have dyn:Digs BB (dg BB y.natAbs):=cyn.1
 have hsx:(dg BB x.natAbs).length ≤ 1099511627776:=hn
 have hsy:(dg BB y.natAbs).length ≤ 1099511627776:=hm
 have hvx:=dg_val BB2 x.natAbs
 have hvy:=dg_val BB2 y.natAbs
 have HX1:=hide hvx
 have HY1:=hide hvy
 have HF1:Hid (decide (x < 0) = false → y ≠ 0 → signZ (false != decide (y < 0)) (val BB (dg BB x.natAbs) / val BB (dg BB y.natAbs)) = x / y ∧ ((val BB (dg BB x.natAbs) % val BB (dg BB y.natAbs):Nat):Int) = x % y):=hide (fun h h0=>by rw [hvx,hvy]; exact div_pos h0 (by simpa using h))
 have HF2:Hid (decide (x < 0) = true → y ≠ 0 → val BB (dg BB x.natAbs) % val BB (dg BB y.natAbs) = 0 → signZ (true != decide (y < 0)) (val BB (dg BB x.natAbs) / val BB (dg BB y.natAbs)) = x / y ∧ 0 = x % y):=hide (fun h h0 h1=>by rw [hvx,hvy] at *; exact div_neg0 h0 (by simpa using h) h1)
 have HF3:Hid (decide (x < 0) = true → y ≠ 0 → 0 < val BB (dg BB x.natAbs) % val BB (dg BB y.natAbs) → signZ (true != decide (y < 0)) (val BB (dg BB x.natAbs) / val BB (dg BB y.natAbs) + 1) = x / y ∧ ((val BB (dg BB y.natAbs) - val BB (dg BB x.natAbs) % val BB (dg BB y.natAbs):Nat):Int) = x % y):=hide (fun h h0 h1=>by rw [hvx,hvy] at *; exact div_neg1 h0 (by simpa using h) h1)
 clear hvx hvy
 generalize decide (x < 0) = nx at *
 generalize decide (y < 0) = ny at *
 generalize dg BB x.natAbs = dx at *
 generalize dg BB y.natAbs = dy at *
 go_region_held3 (fun w'=>w'.cell? ⟨w.heap.size,0,none⟩ = some (.bool nx) ∧ w'.cell? ⟨w.heap.size,1,none⟩ = some (.slice a dx.length ca) ∧ w'.cell? ⟨w.heap.size + 1,0,none⟩ = some (.bool ny) ∧ w'.cell? ⟨w.heap.size + 1,1,none⟩ = some (.slice b dy.length cb) ∧ w'.frozen? ⟨w.heap.size,0,none⟩ = false ∧ w'.frozen? ⟨w.heap.size,1,none⟩ = false ∧ w'.frozen? ⟨w.heap.size + 1,0,none⟩ = false ∧ w'.frozen? ⟨w.heap.size + 1,1,none⟩ = false ∧ Rs w [w.heap.size + 1 + 1,w.heap.size + 1 + 1 + 1] w')
  (first | with_reducible exact keep2 (by assumption) hb1 | with_reducible exact keepA2 hwA hneA hgA (by assumption) | with_reducible exact keepB2 hwB hneB hgB (by assumption) | go_keep)
  (first
   | (go_at_call_of 42 (Value.agg #[.bool nx,.slice a dx.length ca]); (with_reducible refine (right_at HX0 hn (by go_split_ands; exact Rs.bel (by assumption))).mono ?_); rintro e w1 ⟨rfl,hb1⟩)
   | (go_at_call_of 42 (Value.agg #[.bool ny,.slice b dy.length cb]); (with_reducible refine (right_at HY0 hm (by go_split_ands; exact Rs.bel (by assumption))).mono ?_); rintro e w1 ⟨rfl,hb1⟩))
 rename_i hS
 generalize ((((w1.setCell _ _).setCell _ _).setCell _ _).setCell _ _) = W1 at hS ⊢
 clear c0 c1 cf d0 d1 df f20 f21 f30 f31 hb1 hX0 hY0 hR0 hR1
 obtain ⟨c0,c1,d0,d1,f20,f21,f30,f31,hR⟩:=hS
 have hda1:=hda.below hR.1 (Nat.le_refl _)
 have hdb1:=hdb.below hR.1 (Nat.le_refl _)
 have hg4:w.heap.size + 1 + 1 ∈ [w.heap.size + 1 + 1,w.heap.size + 1 + 1 + 1]:=by simp
 have hg5:w.heap.size + 1 + 1 + 1 ∈ [w.heap.size + 1 + 1,w.heap.size + 1 + 1 + 1]:=by simp
 by_cases hy0:dy = []
 ·subst hy0
  have hyz:y = 0:=by
   have:=HY1.out
   simp [val] at this
   exact Int.natAbs_eq_zero.1 this.symm
  obtain ⟨_,_,_,_,k0,k1,kf0,kf1,hX4⟩:=Rs.at hR hg4 (Below.refl _ _)
  obtain ⟨_,_,_,_,m0,m1,mf0,mf1,hX5⟩:=Rs.at hR hg5 (Below.refl _ _)
  simp only [List.length_nil] at d1 ⊢
  go_wp2_with fail
  obtain ⟨⟨e0,e1,-⟩,⟨e2,e3,-⟩,hRf⟩:=fin2 hR hX4 hX5 (by omega) (by omega) (by omega) false none 0 0 false none 0 0
  refine bodyPost_ret (v:=.tuple #[.agg #[.bool false,.slice none 0 0],.agg #[.bool false,.slice none 0 0]]) (by simp [results,Try.results62,go_sem,e0,e1,e2,e3]) rfl ?_
  rw [← HP.out]
  exact ⟨_,_,rfl,by rw [if_pos hyz]; exact IntV.zero _,by rw [if_pos hyz]; exact IntV.zero _,hRf⟩
 ·have hyz:y ≠ 0:=by
   rintro rfl
   have h1:=Canon.pos (by rw [BB_eq]; decide) cyn hy0
   have h2:=HY1.out
   simp at h2
   omega
  have hd0:0 < dy.length:=List.length_pos_iff.2 hy0
  have e0:((dy.length:Int) == 0) = false:=by simp; omega
  have hS1:W1.cell? ⟨w.heap.size,0,none⟩ = some (.bool nx) ∧ W1.cell? ⟨w.heap.size,1,none⟩ = some (.slice a dx.length ca) ∧ W1.cell? ⟨w.heap.size + 1,0,none⟩ = some (.bool ny) ∧ W1.cell? ⟨w.heap.size + 1,1,none⟩ = some (.slice b dy.length cb) ∧ W1.frozen? ⟨w.heap.size,0,none⟩ = false ∧ W1.frozen? ⟨w.heap.size,1,none⟩ = false ∧ W1.frozen? ⟨w.heap.size + 1,0,none⟩ = false ∧ W1.frozen? ⟨w.heap.size + 1,1,none⟩ = false ∧ Rs w [w.heap.size + 1 + 1,w.heap.size + 1 + 1 + 1] W1:=⟨c0,c1,d0,d1,f20,f21,f30,f31,hR⟩
  go_wp2_with fail
  refine (divide_any a b ca cb dx dy W1 hda1 hdb1 ha cxn cyn hy0 hsx).mono ?_
  rintro e w2 ⟨a1,c1',out,a2,c2,left,rfl,fo,fl,do1,dl1,go1,gl1,vo,vl,lo,ll,hb2⟩
  obtain ⟨rv,hrv⟩:∃ rv,rv = val BB dx % val BB dy:=⟨_,rfl⟩
  rw [← hrv] at vl
  have HVO:=hide vo
  have HRV:=hide hrv
  clear vo hrv
  have hS2:=keep2 hS1 hb2
  clear hS1 c0 c1 d0 d1 f20 f21 f30 f31 hR hda1 hdb1
  obtain ⟨c0,c1,d0,d1,f20,f21,f30,f31,hR⟩:=id hS2
  go_wp2_with fail
  refine (signed_any false a2 c2 left _ dl1 gl1 fl.le (by omega)).mono ?_
  rintro e w3 ⟨r,rfl,hrI,hb3⟩
  rw [vl] at hrI
  obtain ⟨ra,rc,rfl,hrf,hrd⟩:=rest_parts hrI
  clear vl
  have hS3:=keep2 hS2 hb3
  clear hS2 c0 c1 d0 d1 f20 f21 f30 f31 hR
  obtain ⟨c0,c1,d0,d1,f20,f21,f30,f31,hR⟩:=id hS3
  have hGlt:w.heap.size + 1 + 1 + 1 < w3.heap.size:=by
   obtain ⟨_,_,_,_,hk⟩:=hR.2 _ hg5
   exact hk.lt
  have hG4:=Blk.new w3 38 #[.bool false,.slice ra (dg BB rv).length rc]
  have hb4:=(Below.refl _ w3).alloc (Nat.le_refl _) (.cells #[.bool false,.slice ra (dg BB rv).length rc] 38)
  have hS4:=keep2 hS3 hb4
  clear hb2 hS3
  go_upto_region 6 with (fail)
  generalize w3.alloc (.cells #[.bool false,.slice ra (dg BB rv).length rc] 38) = W4 at hG4 hb4 hS4 ⊢
  replace hrd:=hrd.below hb4 (Nat.le_refl _)
  replace do1:=(do1.below hb3 (Nat.le_refl _)).below hb4 (Nat.le_refl _)
  clear c0 c1 d0 d1 f20 f21 f30 f31 hR hb3 hb4 hrI
  obtain ⟨c0,c1,d0,d1,f20,f21,f30,f31,hR⟩:=id hS4
  obtain ⟨g0,g1,gf⟩:=hG4.c2
  have gf0:=gf 0
  have gf1:=gf 1
  generalize w3.heap.size = G at *
  have hwC:w.heap.size ≤ w.heap.size + 1 + 1:=by omega
  have hgC2:w.heap.size + 1 + 1 ≠ w.heap.size:=by omega
  have hgC3:w.heap.size + 1 + 1 ≠ w.heap.size + 1:=by omega
  have hgCG:w.heap.size + 1 + 1 ≠ G:=by omega
  have hwD:w.heap.size ≤ w.heap.size + 1 + 1 + 1:=by omega
  have hgD2:w.heap.size + 1 + 1 + 1 ≠ w.heap.size:=by omega
  have hgD3:w.heap.size + 1 + 1 + 1 ≠ w.heap.size + 1:=by omega
  have hgDG:w.heap.size + 1 + 1 + 1 ≠ G:=by omega
  cases nx with
  | false=>
   go_upto_region 9 with (fail)
   clear HX0
   have HFF:Hid (signZ ny (val BB out) = x / y ∧ ((rv:Nat):Int) = x % y):=hide (by rw [HVO.out,HRV.out]; have h:=HF1.out rfl hyz; rw [Bool.false_bne] at h; exact h)
   have hR1:=hR.drew
   have hqd:Dg .u32 W4.drew a1 out:=do1
   go_region_held3 (fun w'=>w'.cell? ⟨G,0,none⟩ = some (.bool false) ∧ w'.cell? ⟨G,1,none⟩ = some (.slice ra (dg BB rv).length rc) ∧ w'.frozen? ⟨G,0,none⟩ = false ∧ w'.frozen? ⟨G,1,none⟩ = false ∧ w'.cell? ⟨w.heap.size,0,none⟩ = some (.bool false) ∧ w'.cell? ⟨w.heap.size,1,none⟩ = some (.slice a dx.length ca) ∧ w'.cell? ⟨w.heap.size + 1,0,none⟩ = some (.bool ny) ∧ w'.cell? ⟨w.heap.size + 1,1,none⟩ = some (.slice b dy.length cb) ∧ w'.frozen? ⟨w.heap.size,0,none⟩ = false ∧ w'.frozen? ⟨w.heap.size,1,none⟩ = false ∧ w'.frozen? ⟨w.heap.size + 1,0,none⟩ = false ∧ w'.frozen? ⟨w.heap.size + 1,1,none⟩ = false ∧ Rs w [w.heap.size + 1 + 1,w.heap.size + 1 + 1 + 1] w')
    (first | with_reducible exact keep3 (by assumption) hb1 | with_reducible exact keepC3 hwC hgC2 hgC3 hgCG _ _ _ _ (by assumption) | with_reducible exact keepC3 hwD hgD2 hgD3 hgDG _ _ _ _ (by assumption) | go_keep)
    (first | (go_at_call 43; refine (signed_any _ a1 c1' out _ hqd go1 fo.le (by omega)).mono ?_; rintro e w6 ⟨r,rfl,hrI,hb1⟩; obtain ⟨rn,rb,rl,rk,rfl⟩:=hrI.parts; obtain ⟨_,_,_,_,k0,k1,kf0,kf1,hX4⟩:=Rs.at (gs:=[w.heap.size + 1 + 1,w.heap.size + 1 + 1 + 1]) hR1 hg4 hb1; obtain ⟨_,_,_,_,m0,m1,mf0,mf1,hX5⟩:=Rs.at (gs:=[w.heap.size + 1 + 1,w.heap.size + 1 + 1 + 1]) hR1 hg5 hb1))
   rename_i hS
   clear hS
   obtain ⟨⟨e0,e1,-⟩,⟨e2,e3,-⟩,hRf⟩:=fin2 (hR1.below hb1) hX4 hX5 (by omega) (by omega) (by omega) rn rb rl rk false ra (dg BB rv).length rc
   have hIq:=store2 hrI hX4 hX5 (by omega) (.bool rn) (.slice rb rl rk) (.bool false) (.slice ra (dg BB rv).length rc)
   have hIr:=store2 (rest_intV hrf ((show Dg .u32 W4.drew ra (dg BB rv) from hrd).below hb1 (Nat.le_refl _))) hX4 hX5 (by omega) (.bool rn) (.slice rb rl rk) (.bool false) (.slice ra (dg BB rv).length rc)
   obtain ⟨E1,E2⟩:=HFF.out
   rw [E1] at hIq
   rw [E2] at hIr
   go_wp2_with fail
   refine bodyPost_ret (v:=.tuple #[.agg #[.bool rn,.slice rb rl rk],.agg #[.bool false,.slice ra (dg BB rv).length rc]]) (by simp [results,Try.results62,go_sem,e0,e1,e2,e3]) rfl ?_
   rw [← HP.out]
   exact ⟨_,_,rfl,by rw [if_neg hyz]; exact hIq,by rw [if_neg hyz]; exact hIr,hRf⟩
  | true=>
   rcases Nat.eq_zero_or_pos rv with hz | hz
   ·have hl0:(dg BB rv).length = 0:=by rw [hz]; rfl
    clear HX0
    have HFF:Hid (signZ (!ny) (val BB out) = x / y ∧ ((rv:Nat):Int) = x % y):=hide (by
     have h:=HF2.out rfl hyz (HRV.out.symm.trans hz)
     rw [Bool.true_bne] at h
     rw [HVO.out,hz]
     exact h)
    rw [hl0] at g1 hrf ⊢
    have HD:=hide (rest_nil hz)
    clear hl0 hG4 hS4 hz hrd
    go_upto_region 9 with (fail)
    have hR1:=hR.drew
    have hqd:Dg .u32 W4.drew a1 out:=do1
    go_region_held3 (fun w'=>w'.cell? ⟨G,0,none⟩ = some (.bool false) ∧ w'.cell? ⟨G,1,none⟩ = some (.slice ra 0 rc) ∧ w'.frozen? ⟨G,0,none⟩ = false ∧ w'.frozen? ⟨G,1,none⟩ = false ∧ w'.cell? ⟨w.heap.size,0,none⟩ = some (.bool true) ∧ w'.cell? ⟨w.heap.size,1,none⟩ = some (.slice a dx.length ca) ∧ w'.cell? ⟨w.heap.size + 1,0,none⟩ = some (.bool ny) ∧ w'.cell? ⟨w.heap.size + 1,1,none⟩ = some (.slice b dy.length cb) ∧ w'.frozen? ⟨w.heap.size,0,none⟩ = false ∧ w'.frozen? ⟨w.heap.size,1,none⟩ = false ∧ w'.frozen? ⟨w.heap.size + 1,0,none⟩ = false ∧ w'.frozen? ⟨w.heap.size + 1,1,none⟩ = false ∧ Rs w [w.heap.size + 1 + 1,w.heap.size + 1 + 1 + 1] w')
     (first | with_reducible exact keep3 (by assumption) hb1 | with_reducible exact keepC3 hwC hgC2 hgC3 hgCG _ _ _ _ (by assumption) | with_reducible exact keepC3 hwD hgD2 hgD3 hgDG _ _ _ _ (by assumption) | go_keep)
     (first | (go_at_call 43; refine (signed_any _ a1 c1' out _ hqd go1 fo.le (by omega)).mono ?_; rintro e w6 ⟨r,rfl,hrI,hb1⟩; obtain ⟨rn,rb,rl,rk,rfl⟩:=hrI.parts; obtain ⟨_,_,_,_,k0,k1,kf0,kf1,hX4⟩:=Rs.at (gs:=[w.heap.size + 1 + 1,w.heap.size + 1 + 1 + 1]) hR1 hg4 hb1; obtain ⟨_,_,_,_,m0,m1,mf0,mf1,hX5⟩:=Rs.at (gs:=[w.heap.size + 1 + 1,w.heap.size + 1 + 1 + 1]) hR1 hg5 hb1))
    rename_i hS
    clear hS
    obtain ⟨⟨e0,e1,-⟩,⟨e2,e3,-⟩,hRf⟩:=fin2 (hR1.below hb1) hX4 hX5 (by omega) (by omega) (by omega) rn rb rl rk false ra 0 rc
    have hIq:=store2 hrI hX4 hX5 (by omega) (.bool rn) (.slice rb rl rk) (.bool false) (.slice ra 0 rc)
    have hIr:=store2 (HD.out _ ra rc hrf) hX4 hX5 (by omega) (.bool rn) (.slice rb rl rk) (.bool false) (.slice ra 0 rc)
    obtain ⟨E1,E2⟩:=HFF.out
    rw [E1] at hIq
    rw [E2] at hIr
    go_wp2_with fail
    refine bodyPost_ret (v:=.tuple #[.agg #[.bool rn,.slice rb rl rk],.agg #[.bool false,.slice ra 0 rc]]) (by simp [results,Try.results62,go_sem,e0,e1,e2,e3]) rfl ?_
    rw [← HP.out]
    exact ⟨_,_,rfl,by rw [if_neg hyz]; exact hIq,by rw [if_neg hyz]; exact hIr,hRf⟩
   ·clear HX0
    have hlp:0 < (dg BB rv).length:=by
     rcases Nat.eq_zero_or_pos (dg BB rv).length with h | h
     ·have:=(dg_eq_nil BB2).1 (List.length_eq_zero_iff.1 h); omega
     ·exact h
    have hlpd:decide (0 < (dg BB rv).length) = true:=decide_eq_true hlp
    have hrlt:rv < val BB dy:=by rw [HRV.out]; exact Nat.mod_lt _ (Canon.pos (by rw [BB_eq]; decide) cyn hy0)
    have hrle:(dg BB rv).length ≤ dy.length:=by
     rcases Nat.lt_or_ge dy.length (dg BB rv).length with h | h
     ·have:=cyn.lt_of_len (dg_canon BB2 rv) h
      rw [dg_val BB2] at this
      omega
     ·exact h
    have hrvv:=dg_val BB2 rv
    have HV1:Hid (val BB dy - val BB (dg BB rv) = val BB dy - rv):=hide (by rw [hrvv])
    have hvle:val BB (dg BB rv) ≤ val BB dy:=by rw [hrvv]; omega
    have drn:Digs BB (dg BB rv):=(dg_canon BB2 rv).1
    have HF4:Hid (signZ (!ny) (val BB out + 1) = x / y ∧ ((val BB dy - rv:Nat):Int) = x % y):=hide (by
     have h:=HF3.out rfl hyz (by rw [← HRV.out]; exact hz)
     rw [Bool.true_bne,← HRV.out] at h
     rw [HVO.out]
     exact h)
    generalize dg BB rv = rd at *
    clear hrvv hlp hrlt
    have hS5:=keep3 ⟨g0,g1,gf0,gf1,hS4⟩ ((Below.refl _ W4).alloc (Nat.le_refl _) (.cells #[.int .u32 1] 85))
    have hone:=dg_alloc1 W4 85 1
    have hout5:=do1.below ((Below.refl _ W4).alloc (Nat.le_refl _) (.cells #[.int .u32 1] 85)) (Nat.le_refl _)
    have hrd5:=hrd.below ((Below.refl _ W4).alloc (Nat.le_refl _) (.cells #[.int .u32 1] 85)) (Nat.le_refl _)
    clear hS4 hG4
    go_wp2_with fail
    refine (plus_any a1 _ c1' 1 out [1] _ hout5 hone go1 (fun d hd=>by rw [List.mem_singleton] at hd; rw [hd,BB_eq]; decide) (by omega) (by decide)).mono ?_
    rintro e w5 ⟨pa,pc,ps,rfl,hpf,hpd,hpD,hpv,hpl,hb5⟩
    have hS6:=keep3 hS5 hb5
    have hrd6:=hrd5.below hb5 (Nat.le_refl _)
    have HPV:Hid (val BB ps = val BB out + 1):=hide (by rw [hpv]; simp [val])
    have hpl':ps.length ≤ 4611686018427387904:=by simp at hpl; omega
    clear hS5 hrd5 hout5 hone hb5 hpv hpl c0 c1 d0 d1 f20 f21 f30 f31 hR g0 g1 gf gf0 gf1 hrd do1
    obtain ⟨g0,g1,gf0,gf1,c0,c1,d0,d1,f20,f21,f30,f31,hR⟩:=id hS6
    have hdb6:=hdb.below hR.1 (Nat.le_refl _)
    go_wp2_with fail
    refine (minus_any b ra cb rc dy rd _ hdb6 hrd6 dyn drn hsy hrle hvle).mono ?_
    rintro e w6 ⟨ma,mc,ms,rfl,hmf,hmd,hmD,hmv,hml,hb6⟩
    have hS7:=keep3 hS6 hb6
    have hpd7:=hpd.below hb6 (Nat.le_refl _)
    clear hS6 hpd hb6 c0 c1 d0 d1 f20 f21 f30 f31 hR g0 g1 gf0 gf1 hdb6 hrd6
    obtain ⟨g0,g1,gf0,gf1,c0,c1,d0,d1,f20,f21,f30,f31,hR⟩:=id hS7
    go_wp2_with fail
    refine (signed_any false ma mc ms _ hmd hmD hmf.le (by omega)).mono ?_
    rintro e w7 ⟨r,rfl,hrI,hb7⟩
    rw [hmv,HV1.out] at hrI
    have hS8:=keep3 hS7 hb7
    have hpd8:=hpd7.below hb7 (Nat.le_refl _)
    clear hS7 hpd7 hb7 hmv hml hmd c0 c1 d0 d1 f20 f21 f30 f31 hR g0 g1 gf0 gf1 hrf
    obtain ⟨na,nc,rfl,hrf,hrd⟩:=rest_parts hrI
    obtain ⟨g0,g1,gf0,gf1,c0,c1,d0,d1,f20,f21,f30,f31,hR⟩:=id hS8
    have hS9:=keepSet3 (by omega) (by omega) (by omega) (by simp; omega) (.bool false) (.slice na (dg BB (val BB dy - rv)).length nc) hS8
    have hpd9:=dg_far g0 g1 hpd8 (.bool false) (.slice na (dg BB (val BB dy - rv)).length nc)
    have hrd9:=dg_far g0 g1 hrd (.bool false) (.slice na (dg BB (val BB dy - rv)).length nc)
    clear hS8 hrI hpd8 hrd
    go_upto_region 9 with (fail)
    generalize (w7.setCell _ _).setCell _ _ = W9 at hS9 hpd9 hrd9 ⊢
    clear c0 c1 d0 d1 f20 f21 f30 f31 hR g0 g1 gf0 gf1
    obtain ⟨g0,g1,gf0,gf1,c0,c1,d0,d1,f20,f21,f30,f31,hR⟩:=hS9
    have HFF:Hid (signZ (!ny) (val BB ps) = x / y ∧ ((val BB dy - rv:Nat):Int) = x % y):=hide (by rw [HPV.out]; exact HF4.out)
    clear HV1 HF1 HF2 HF3 HF4 HPV HVO
    have hR1:=hR.drew
    have hqd:Dg .u32 W9.drew pa ps:=hpd9
    go_region_held3 (fun w'=>w'.cell? ⟨G,0,none⟩ = some (.bool false) ∧ w'.cell? ⟨G,1,none⟩ = some (.slice na (dg BB (val BB dy - rv)).length nc) ∧ w'.frozen? ⟨G,0,none⟩ = false ∧ w'.frozen? ⟨G,1,none⟩ = false ∧ w'.cell? ⟨w.heap.size,0,none⟩ = some (.bool true) ∧ w'.cell? ⟨w.heap.size,1,none⟩ = some (.slice a dx.length ca) ∧ w'.cell? ⟨w.heap.size + 1,0,none⟩ = some (.bool ny) ∧ w'.cell? ⟨w.heap.size + 1,1,none⟩ = some (.slice b dy.length cb) ∧ w'.frozen? ⟨w.heap.size,0,none⟩ = false ∧ w'.frozen? ⟨w.heap.size,1,none⟩ = false ∧ w'.frozen? ⟨w.heap.size + 1,0,none⟩ = false ∧ w'.frozen? ⟨w.heap.size + 1,1,none⟩ = false ∧ Rs w [w.heap.size + 1 + 1,w.heap.size + 1 + 1 + 1] w')
     (first | with_reducible exact keep3 (by assumption) hb1 | with_reducible exact keepC3 hwC hgC2 hgC3 hgCG _ _ _ _ (by assumption) | with_reducible exact keepC3 hwD hgD2 hgD3 hgDG _ _ _ _ (by assumption) | go_keep)
     (first | (go_at_call 43; refine (signed_any _ pa pc ps _ hqd hpD hpf.le (by omega)).mono ?_; rintro e w6 ⟨r,rfl,hrI,hb1⟩; obtain ⟨rn,rb,rl,rk,rfl⟩:=hrI.parts; obtain ⟨_,_,_,_,k0,k1,kf0,kf1,hX4⟩:=Rs.at (gs:=[w.heap.size + 1 + 1,w.heap.size + 1 + 1 + 1]) hR1 hg4 hb1; obtain ⟨_,_,_,_,m0,m1,mf0,mf1,hX5⟩:=Rs.at (gs:=[w.heap.size + 1 + 1,w.heap.size + 1 + 1 + 1]) hR1 hg5 hb1))
    rename_i hS
    clear hS
    obtain ⟨⟨e0,e1,-⟩,⟨e2,e3,-⟩,hRf⟩:=fin2 (hR1.below hb1) hX4 hX5 (by omega) (by omega) (by omega) rn rb rl rk false na (dg BB (val BB dy - rv)).length nc
    have hIq:=store2 hrI hX4 hX5 (by omega) (.bool rn) (.slice rb rl rk) (.bool false) (.slice na (dg BB (val BB dy - rv)).length nc)
    have hIr:=store2 (rest_intV hrf ((show Dg .u32 W9.drew na (dg BB (val BB dy - rv)) from hrd9).below hb1 (Nat.le_refl _))) hX4 hX5 (by omega) (.bool rn) (.slice rb rl rk) (.bool false) (.slice na (dg BB (val BB dy - rv)).length nc)
    obtain ⟨E1,E2⟩:=HFF.out
    rw [E1] at hIq
    rw [E2] at hIr
    go_wp2_with fail
    refine bodyPost_ret (v:=.tuple #[.agg #[.bool rn,.slice rb rl rk],.agg #[.bool false,.slice na (dg BB (val BB dy - rv)).length nc]]) (by simp [results,Try.results62,go_sem,e0,e1,e2,e3]) rfl ?_
    rw [← HP.out]
    exact ⟨_,_,rfl,by rw [if_neg hyz]; exact hIq,by rw [if_neg hyz]; exact hIr,hRf⟩

theorem Blk.later {c w':World} {g:Nat} {t:TypeId} {cs:Array Value} (hb:Below c.heap.size c w') (h:Blk c g t cs):Blk w' g t cs:=h.below hb h.lt
section
variable {w0 c w':World}
theorem bl_call (h:Below w0.heap.size w0 c) (hb:Below c.heap.size c w'):Below w0.heap.size w0 w':=h.trans (hb.mono h.size)
theorem bl_drew (h:Below w0.heap.size w0 c):Below w0.heap.size w0 c.drew:=h.drew
theorem bl_alloc (h:Below w0.heap.size w0 c) (o:Obj):Below w0.heap.size w0 (c.alloc o):=h.alloc h.size o
theorem bl_set (h:Below w0.heap.size w0 c) {g:Nat} (hg:w0.heap.size ≤ g) (i:Nat) (u:Value):Below w0.heap.size w0 (c.setCell ⟨g,i,none⟩ u):=h.setCell hg u
end
theorem Blk.new_at (c:World) (t:TypeId) (cs:Array Value) {g:Nat} (h:g = c.heap.size):Blk (c.alloc (.cells cs t)) g t cs:=by subst h; exact Blk.new _ _ _

theorem IntV.drewd {w:World} {v:Value} {z:Int} (h:IntV w v z):IntV w.drew v z:=h
theorem Dg.drewd {k:IntKind} {w:World} {a:Option Addr} {ds:List Nat} (h:Dg k w a ds):Dg k w.drew a ds:=h
theorem Dg.allocd {k:IntKind} {w:World} {a:Option Addr} {ds:List Nat} (h:Dg k w a ds) (o:Obj):Dg k (w.alloc o) a ds:=h.below ((Below.refl _ _).alloc (Nat.le_refl _) _) (Nat.le_refl _)
theorem IntV.allocd {w:World} {v:Value} {z:Int} (h:IntV w v z) (o:Obj):IntV (w.alloc o) v z:=h.below ((Below.refl _ _).alloc (Nat.le_refl _) _) (Nat.le_refl _)
theorem IntV.later {c w':World} {v:Value} {z:Int} (hb:Below c.heap.size c w') (h:IntV c v z):IntV w' v z:=h.below hb (Nat.le_refl _)

structure Two (w:World) (gs:List Nat) (L g5 g6:Nat) (a b:Int) (c:World):Prop where
 rs:Rs w gs c
 ne:g5 ≠ g6
 lo5:L ≤ g5
 lo6:L ≤ g6
 b5:∃ n s l k,Blk c g5 38 #[.bool n,.slice s l k] ∧ IntV c (.agg #[.bool n,.slice s l k]) a
 b6:∃ n s l k,Blk c g6 38 #[.bool n,.slice s l k] ∧ IntV c (.agg #[.bool n,.slice s l k]) b

theorem Two.of {w c:World} {gs:List Nat} {L g5 g6:Nat} {a b:Int} {n n' m m':Bool} {s s' t t':Option Addr} {l l' k k' j j' i i':Nat} (hR:Rs w gs c) (hne:g5 ≠ g6) (h5:L ≤ g5) (h6:L ≤ g6) (hL:w.heap.size ≤ L) (hgs:∀ g ∈ gs,g < L) (k5:Blk c g5 38 #[.bool m,.slice t j i]) (k6:Blk c g6 38 #[.bool m',.slice t' j' i'])
  (ha:IntV c (.agg #[.bool n,.slice s l k]) a) (hb:IntV c (.agg #[.bool n',.slice s' l' k']) b) :
  Two w gs L g5 g6 a b ((((c.setCell ⟨g5,0,none⟩ (.bool n)).setCell ⟨g5,1,none⟩ (.slice s l k)).setCell ⟨g6,0,none⟩ (.bool n')).setCell ⟨g6,1,none⟩ (.slice s' l' k')):=by
 have n5:g5 ∉ gs:=fun h=>by have:=hgs _ h; omega
 have n6:g6 ∉ gs:=fun h=>by have:=hgs _ h; omega
 refine ⟨(((hR.far (by omega) n5 _ _).far (by omega) n5 _ _).far (by omega) n6 _ _).far (by omega) n6 _ _,hne,h5,h6,⟨n,s,l,k,?_,?_⟩,⟨n',s',l',k',?_,?_⟩⟩
 ·exact ((k5.two _ _).far (by simpa using hne) _).far (by simpa using hne) _
 ·exact (ha.store k5 _ _).store ((k6.far (by simpa using hne.symm) _).far (by simpa using hne.symm) _) _ _
 ·exact ((k6.far (by simpa using hne.symm) _).far (by simpa using hne.symm) _).two _ _
 ·exact (hb.store k5 _ _).store ((k6.far (by simpa using hne.symm) _).far (by simpa using hne.symm) _) _ _

theorem Two.drew {w c:World} {gs:List Nat} {L g5 g6:Nat} {a b:Int} (h:Two w gs L g5 g6 a b c):Two w gs L g5 g6 a b c.drew:=by
 obtain ⟨h1,h2,h3,h4,⟨n,s,l,k,h5,h5'⟩,⟨n',s',l',k',h6,h6'⟩⟩:=h
 exact ⟨h1.drew,h2,h3,h4,⟨n,s,l,k,h5.drew,h5'.drewd⟩,⟨n',s',l',k',h6.drew,h6'.drewd⟩⟩

set_option maxRecDepth 100000 in
set_option maxHeartbeats 6400000 in
theorem Gcd_any {x y:Int} {u v:Value} (w:World) (hx:IntV w u x) (hy:IntV w v y) (hn:Sm x) (hm:Sm y) :
  Calls Try.prog 70 #[u,v] w (IntPost w (Nat.gcd x.natAbs y.natAbs:Nat)):=by
 generalize hP:IntPost w (Nat.gcd x.natAbs y.natAbs:Nat) = Post
 have HP:=hide hP
 clear hP
 obtain ⟨a,ca,rfl,ha,hda⟩:=id hx
 obtain ⟨b,cb,rfl,hb,hdb⟩:=id hy
 have HX0:=hx
 have HY0:=hy
 clear hx hy
 have hX0:Blk (((w.alloc (.cells #[.bool (decide (x < 0)),.slice a (dg BB x.natAbs).length ca] 38)).alloc (.cells #[.bool (decide (y < 0)),.slice b (dg BB y.natAbs).length cb] 38)).alloc (.cells #[.bool false,.slice none 0 0] 38)) w.heap.size 38 #[.bool (decide (x < 0)),.slice a (dg BB x.natAbs).length ca]:=((Blk.new w _ _).alloc _).alloc _
 have hY0:Blk (((w.alloc (.cells #[.bool (decide (x < 0)),.slice a (dg BB x.natAbs).length ca] 38)).alloc (.cells #[.bool (decide (y < 0)),.slice b (dg BB y.natAbs).length cb] 38)).alloc (.cells #[.bool false,.slice none 0 0] 38)) (w.heap.size + 1) 38 #[.bool (decide (y < 0)),.slice b (dg BB y.natAbs).length cb]:=by
  have h:=Blk.new (w.alloc (.cells #[.bool (decide (x < 0)),.slice a (dg BB x.natAbs).length ca] 38)) 38 #[.bool (decide (y < 0)),.slice b (dg BB y.natAbs).length cb]
  rw [World.size_alloc] at h
  exact h.alloc _
 have hZ0:Blk (((w.alloc (.cells #[.bool (decide (x < 0)),.slice a (dg BB x.natAbs).length ca] 38)).alloc (.cells #[.bool (decide (y < 0)),.slice b (dg BB y.natAbs).length cb] 38)).alloc (.cells #[.bool false,.slice none 0 0] 38)) (w.heap.size + 1 + 1) 38 #[.bool false,.slice none 0 0]:=by
  have h:=Blk.new ((w.alloc (.cells #[.bool (decide (x < 0)),.slice a (dg BB x.natAbs).length ca] 38)).alloc (.cells #[.bool (decide (y < 0)),.slice b (dg BB y.natAbs).length cb] 38)) 38 #[.bool false,.slice none 0 0]
  simp only [World.size_alloc] at h
  exact h
 have hR0:Rs w [w.heap.size + 1 + 1] (((w.alloc (.cells #[.bool (decide (x < 0)),.slice a (dg BB x.natAbs).length ca] 38)).alloc (.cells #[.bool (decide (y < 0)),.slice b (dg BB y.natAbs).length cb] 38)).alloc (.cells #[.bool false,.slice none 0 0] 38)):=by
  refine ⟨(((Below.refl w.heap.size w).alloc (Nat.le_refl _) _).alloc (by simp) _).alloc (by simp; omega) _,?_⟩
  intro g hg
  simp at hg
  subst hg
  ·exact ⟨_,_,_,_,hZ0⟩
 go_enter Try.func70,Try.ntmps70
 go_upto_region 1 with (fail)
 generalize ((w.alloc (.cells #[.bool (decide (x < 0)),.slice a (dg BB x.natAbs).length ca] 38)).alloc (.cells #[.bool (decide (y < 0)),.slice b (dg BB y.natAbs).length cb] 38)).alloc (.cells #[.bool false,.slice none 0 0] 38) = W at hX0 hY0 hR0 hZ0 ⊢
 clear hZ0
 obtain ⟨c0,c1,cf⟩:=hX0.c2
 obtain ⟨d0,d1,df⟩:=hY0.c2
 have hR1:=hR0.drew
 have hwA:w.heap.size ≤ w.heap.size:=Nat.le_refl _
 have hneA:w.heap.size ≠ w.heap.size + 1:=by omega
 have hwB:w.heap.size ≤ w.heap.size + 1:=by omega
 have hneB:w.heap.size + 1 ≠ w.heap.size:=by omega
 have hgA:w.heap.size ∉ [w.heap.size + 1 + 1]:=by simp only [List.mem_cons,List.mem_nil_iff,or_false]; omega
 have hgB:w.heap.size + 1 ∉ [w.heap.size + 1 + 1]:=by simp only [List.mem_cons,List.mem_nil_iff,or_false]; omega
 have f20:=cf 0
 have f21:=cf 1
 have f30:=df 0
 have f31:=df 1
 have cxn:=dg_canon BB2 x.natAbs
 have cyn:=dg_canon BB2 y.natAbs
 have dxn:Digs BB (dg BB x.natAbs):=cxn.1
 have dyn:Digs BB (dg BB y.natAbs):=cyn.1
 have hsx:(dg BB x.natAbs).length ≤ 1099511627776:=hn
 have hsy:(dg BB y.natAbs).length ≤ 1099511627776:=hm
 have hvx:=dg_val BB2 x.natAbs
 have hvy:=dg_val BB2 y.natAbs
 have HX1:=hide hvx
 have HY1:=hide hvy
 clear hvx hvy
 generalize decide (x < 0) = nx at *
 generalize decide (y < 0) = ny at *
 generalize dg BB x.natAbs = dx at *
 generalize dg BB y.natAbs = dy at *
 go_region_held3 (fun w'=>w'.cell? ⟨w.heap.size,0,none⟩ = some (.bool nx) ∧ w'.cell? ⟨w.heap.size,1,none⟩ = some (.slice a dx.length ca) ∧ w'.cell? ⟨w.heap.size + 1,0,none⟩ = some (.bool ny) ∧ w'.cell? ⟨w.heap.size + 1,1,none⟩ = some (.slice b dy.length cb) ∧ w'.frozen? ⟨w.heap.size,0,none⟩ = false ∧ w'.frozen? ⟨w.heap.size,1,none⟩ = false ∧ w'.frozen? ⟨w.heap.size + 1,0,none⟩ = false ∧ w'.frozen? ⟨w.heap.size + 1,1,none⟩ = false ∧ Rs w [w.heap.size + 1 + 1] w')
  (first | with_reducible exact keep2 (by assumption) hb1 | with_reducible exact keepA2 hwA hneA hgA (by assumption) | with_reducible exact keepB2 hwB hneB hgB (by assumption) | go_keep)
  (first
   | (go_at_call_of 42 (Value.agg #[.bool nx,.slice a dx.length ca]); (with_reducible refine (right_at HX0 hn (by go_split_ands; exact Rs.bel (by assumption))).mono ?_); rintro e w1 ⟨rfl,hb1⟩)
   | (go_at_call_of 42 (Value.agg #[.bool ny,.slice b dy.length cb]); (with_reducible refine (right_at HY0 hm (by go_split_ands; exact Rs.bel (by assumption))).mono ?_); rintro e w1 ⟨rfl,hb1⟩))
 rename_i hS
 generalize ((((w1.setCell _ _).setCell _ _).setCell _ _).setCell _ _) = W1 at hS ⊢
 clear c0 c1 cf d0 d1 df f20 f21 f30 f31 hb1 hX0 hY0 hR0 hR1
 obtain ⟨c0,c1,d0,d1,f20,f21,f30,f31,hR⟩:=hS
 have hda1:=hda.below hR.1 (Nat.le_refl _)
 have hdb1:=hdb.below hR.1 (Nat.le_refl _)
 have hg4:w.heap.size + 1 + 1 ∈ [w.heap.size + 1 + 1]:=by simp
 have hlt4:w.heap.size + 1 + 1 < W1.heap.size:=by
  obtain ⟨_,_,_,_,hk⟩:=hR.2 _ hg4
  exact hk.lt
 have hS1:W1.cell? ⟨w.heap.size,0,none⟩ = some (.bool nx) ∧ W1.cell? ⟨w.heap.size,1,none⟩ = some (.slice a dx.length ca) ∧ W1.cell? ⟨w.heap.size + 1,0,none⟩ = some (.bool ny) ∧ W1.cell? ⟨w.heap.size + 1,1,none⟩ = some (.slice b dy.length cb) ∧ W1.frozen? ⟨w.heap.size,0,none⟩ = false ∧ W1.frozen? ⟨w.heap.size,1,none⟩ = false ∧ W1.frozen? ⟨w.heap.size + 1,0,none⟩ = false ∧ W1.frozen? ⟨w.heap.size + 1,1,none⟩ = false ∧ Rs w [w.heap.size + 1 + 1] W1:=⟨c0,c1,d0,d1,f20,f21,f30,f31,hR⟩
 go_upto_region 2 with (fail)
 clear hda1 hdb1
 go_cut [5,6] from 13 to 20 (fun v5 v6 wc=>∃ g5 g6,v5 = .pointer (some ⟨g5,0,none⟩) ∧ v6 = .pointer (some ⟨g6,0,none⟩) ∧ Two w [w.heap.size + 1 + 1] (w.heap.size + 1 + 1 + 1) g5 g6 (signZ false x.natAbs) (signZ false y.natAbs) wc)
 case first=>
  go_region_held3 (fun w'=>w'.cell? ⟨w.heap.size,0,none⟩ = some (.bool nx) ∧ w'.cell? ⟨w.heap.size,1,none⟩ = some (.slice a dx.length ca) ∧ w'.cell? ⟨w.heap.size + 1,0,none⟩ = some (.bool ny) ∧ w'.cell? ⟨w.heap.size + 1,1,none⟩ = some (.slice b dy.length cb) ∧ w'.frozen? ⟨w.heap.size,0,none⟩ = false ∧ w'.frozen? ⟨w.heap.size,1,none⟩ = false ∧ w'.frozen? ⟨w.heap.size + 1,0,none⟩ = false ∧ w'.frozen? ⟨w.heap.size + 1,1,none⟩ = false ∧ Rs w [w.heap.size + 1 + 1] w')
   (exact keep2 hS1 (by repeat (first | with_reducible exact Below.refl _ _ | with_reducible refine bl_drew ?_ | with_reducible refine bl_alloc ?_ _ | with_reducible refine bl_set ?_ (by omega) _ _ | with_reducible refine bl_call ?_ (by with_reducible assumption))))
   (first
    | (go_at_call_of 47 (Value.slice a dx.length ca); (with_reducible refine (copied_at hda ha dxn hsx (by go_split_ands; exact Rs.bel (by assumption))).mono ?_); rintro e w1 ⟨ra,rc,rs,rfl,hrf,hrd,hrD,hrv,hrl,hb1⟩; have hs1:=hb1.size; (try simp only [World.size_drew] at hs1); (try simp only [World.size_alloc] at hs1); (first | with_reducible replace hA:=Blk.later hb1 hA | with_reducible replace hA:=Blk.later hb1 (Blk.alloc hA _) | with_reducible replace hA:=Blk.later hb1 (Blk.alloc (Blk.alloc hA _) _) | skip); (first | with_reducible replace hB:=Blk.later hb1 hB | with_reducible replace hB:=Blk.later hb1 (Blk.alloc hB _) | with_reducible replace hB:=Blk.later hb1 (Blk.alloc (Blk.alloc hB _) _) | skip); (first | (have _t:=hA; first | (have hB:=Blk.later hb1 (Blk.new _ _ _)) | skip) | (have hA:=Blk.later hb1 (Blk.alloc (Blk.new _ _ _) _); have hB:=Blk.later hb1 (Blk.new _ _ _)) | (have hA:=Blk.later hb1 (Blk.drew (Blk.alloc (Blk.new _ _ _) _)); have hB:=Blk.later hb1 (Blk.drew (Blk.new _ _ _))) | (have hA:=Blk.later hb1 (Blk.new _ _ _)) | (have hA:=Blk.later hb1 (Blk.drew (Blk.new _ _ _))) | skip); (try (try simp only [World.size_alloc] at hA); obtain ⟨khA0,khA1,khAf⟩:=hA.c2; have khA2:=khAf 0; have khA3:=khAf 1; have khAl:=hA.lt; clear khAf); (try (try simp only [World.size_alloc] at hB); obtain ⟨khB0,khB1,khBf⟩:=hB.c2; have khB2:=khBf 0; have khB3:=khBf 1; have khBl:=hB.lt; clear khBf))
    | (go_at_call_of 47 (Value.slice b dy.length cb); (with_reducible refine (copied_at hdb hb dyn hsy (by go_split_ands; exact Rs.bel (by assumption))).mono ?_); rintro e w1 ⟨ra',rc',rs',rfl,hrf',hrd',hrD',hrv',hrl',hb1⟩; have hs1:=hb1.size; (try simp only [World.size_drew] at hs1); (try simp only [World.size_alloc] at hs1); (first | with_reducible replace hA:=Blk.later hb1 hA | with_reducible replace hA:=Blk.later hb1 (Blk.alloc hA _) | with_reducible replace hA:=Blk.later hb1 (Blk.alloc (Blk.alloc hA _) _) | skip); (first | with_reducible replace hB:=Blk.later hb1 hB | with_reducible replace hB:=Blk.later hb1 (Blk.alloc hB _) | with_reducible replace hB:=Blk.later hb1 (Blk.alloc (Blk.alloc hB _) _) | skip); (first | (have _t:=hA; first | (have hB:=Blk.later hb1 (Blk.new _ _ _)) | skip) | (have hA:=Blk.later hb1 (Blk.alloc (Blk.new _ _ _) _); have hB:=Blk.later hb1 (Blk.new _ _ _)) | (have hA:=Blk.later hb1 (Blk.drew (Blk.alloc (Blk.new _ _ _) _)); have hB:=Blk.later hb1 (Blk.drew (Blk.new _ _ _))) | (have hA:=Blk.later hb1 (Blk.new _ _ _)) | (have hA:=Blk.later hb1 (Blk.drew (Blk.new _ _ _))) | skip); (try (try simp only [World.size_alloc] at hA); obtain ⟨khA0,khA1,khAf⟩:=hA.c2; have khA2:=khAf 0; have khA3:=khAf 1; have khAl:=hA.lt; clear khAf); (try (try simp only [World.size_alloc] at hB); obtain ⟨khB0,khB1,khBf⟩:=hB.c2; have khB2:=khBf 0; have khB3:=khBf 1; have khBl:=hB.lt; clear khBf))
    | (go_at_call_of 43 (Value.slice ra rs.length rc); (with_reducible refine (signed_any false ra rc rs _ (by repeat (first | assumption | refine Dg.allocd ?_ _)) hrD hrf.le (by omega)).mono ?_); rintro e w1 ⟨r,rfl,hrI,hb1⟩; rw [hrv,HX1.out] at hrI; obtain ⟨rn,rb,rl,rk,rfl⟩:=hrI.parts; have hs1:=hb1.size; (try simp only [World.size_drew] at hs1); (try simp only [World.size_alloc] at hs1); (first | with_reducible replace hA:=Blk.later hb1 hA | with_reducible replace hA:=Blk.later hb1 (Blk.alloc hA _) | with_reducible replace hA:=Blk.later hb1 (Blk.alloc (Blk.alloc hA _) _) | skip); (first | with_reducible replace hB:=Blk.later hb1 hB | with_reducible replace hB:=Blk.later hb1 (Blk.alloc hB _) | with_reducible replace hB:=Blk.later hb1 (Blk.alloc (Blk.alloc hB _) _) | skip); (first | (have _t:=hA; first | (have hB:=Blk.later hb1 (Blk.new _ _ _)) | skip) | (have hA:=Blk.later hb1 (Blk.alloc (Blk.new _ _ _) _); have hB:=Blk.later hb1 (Blk.new _ _ _)) | (have hA:=Blk.later hb1 (Blk.drew (Blk.alloc (Blk.new _ _ _) _)); have hB:=Blk.later hb1 (Blk.drew (Blk.new _ _ _))) | (have hA:=Blk.later hb1 (Blk.new _ _ _)) | (have hA:=Blk.later hb1 (Blk.drew (Blk.new _ _ _))) | skip); (try (try simp only [World.size_alloc] at hA); obtain ⟨khA0,khA1,khAf⟩:=hA.c2; have khA2:=khAf 0; have khA3:=khAf 1; have khAl:=hA.lt; clear khAf); (try (try simp only [World.size_alloc] at hB); obtain ⟨khB0,khB1,khBf⟩:=hB.c2; have khB2:=khBf 0; have khB3:=khBf 1; have khBl:=hB.lt; clear khBf))
    | (go_at_call_of 43 (Value.slice ra' rs'.length rc'); (with_reducible refine (signed_any false ra' rc' rs' _ (by repeat (first | assumption | refine Dg.allocd ?_ _)) hrD' hrf'.le (by omega)).mono ?_); rintro e w1 ⟨r',rfl,hrI',hb1⟩; rw [hrv',HY1.out] at hrI'; obtain ⟨rn',rb',rl',rk',rfl⟩:=hrI'.parts; have hs1:=hb1.size; (try simp only [World.size_drew] at hs1); (try simp only [World.size_alloc] at hs1); (first | with_reducible replace hA:=Blk.later hb1 hA | with_reducible replace hA:=Blk.later hb1 (Blk.alloc hA _) | with_reducible replace hA:=Blk.later hb1 (Blk.alloc (Blk.alloc hA _) _) | skip); (first | with_reducible replace hB:=Blk.later hb1 hB | with_reducible replace hB:=Blk.later hb1 (Blk.alloc hB _) | with_reducible replace hB:=Blk.later hb1 (Blk.alloc (Blk.alloc hB _) _) | skip); (first | (have _t:=hA; first | (have hB:=Blk.later hb1 (Blk.new _ _ _)) | skip) | (have hA:=Blk.later hb1 (Blk.alloc (Blk.new _ _ _) _); have hB:=Blk.later hb1 (Blk.new _ _ _)) | (have hA:=Blk.later hb1 (Blk.drew (Blk.alloc (Blk.new _ _ _) _)); have hB:=Blk.later hb1 (Blk.drew (Blk.new _ _ _))) | (have hA:=Blk.later hb1 (Blk.new _ _ _)) | (have hA:=Blk.later hb1 (Blk.drew (Blk.new _ _ _))) | skip); (try (try simp only [World.size_alloc] at hA); obtain ⟨khA0,khA1,khAf⟩:=hA.c2; have khA2:=khAf 0; have khA3:=khAf 1; have khAl:=hA.lt; clear khAf); (try (try simp only [World.size_alloc] at hB); obtain ⟨khB0,khB1,khBf⟩:=hB.c2; have khB2:=khBf 0; have khB3:=khBf 1; have khBl:=hB.lt; clear khBf)))
  all_goals
   go_wp2_with fail
   go_meet
   refine ⟨_,_,rfl,rfl,?r1,?r2,?r3,?r4,⟨rn,rb,rl,rk,?r5,?r6⟩,⟨rn',rb',rl',rk',?r7,?r8⟩⟩
   case r1=>exact hR.below (by repeat (first | with_reducible exact Below.refl _ _ | with_reducible refine bl_drew ?_ | with_reducible refine bl_alloc ?_ _ | with_reducible refine bl_set ?_ (by omega) _ _ | with_reducible refine bl_call ?_ (by with_reducible assumption)))
   case r2=>omega
   case r3=>omega
   case r4=>omega
   case r5=>repeat (first | with_reducible refine Blk.later (by with_reducible assumption) ?_ | with_reducible refine Blk.drew ?_ | with_reducible exact Blk.new _ _ _ | with_reducible exact Blk.new_at _ _ _ (World.size_alloc _ _).symm | with_reducible exact Blk.new_at _ _ _ ((World.size_setCell _ _ _).trans (World.size_setCell _ _ _)).symm | with_reducible refine Blk.alloc ?_ _ | with_reducible refine Blk.two (a:=.bool false) (b:=.slice none 0 0) ?_ _ _ | with_reducible refine Blk.far ?_ (by simp only [ne_eq]; omega) _)
   case r6=>((repeat (first | with_reducible assumption | with_reducible refine IntV.drewd ?_ | with_reducible refine IntV.allocd ?_ _ | with_reducible refine IntV.store ?_ (n:=false) (b:=none) (l:=0) (m:=0) ?_ _ _ | with_reducible refine IntV.later (by with_reducible assumption) ?_)); all_goals repeat (first | with_reducible refine Blk.later (by with_reducible assumption) ?_ | with_reducible refine Blk.drew ?_ | with_reducible exact Blk.new _ _ _ | with_reducible exact Blk.new_at _ _ _ (World.size_alloc _ _).symm | with_reducible exact Blk.new_at _ _ _ ((World.size_setCell _ _ _).trans (World.size_setCell _ _ _)).symm | with_reducible refine Blk.alloc ?_ _ | with_reducible refine Blk.two (a:=.bool false) (b:=.slice none 0 0) ?_ _ _ | with_reducible refine Blk.far ?_ (by simp only [ne_eq]; omega) _))
   case r7=>repeat (first | with_reducible refine Blk.later (by with_reducible assumption) ?_ | with_reducible refine Blk.drew ?_ | with_reducible exact Blk.new _ _ _ | with_reducible exact Blk.new_at _ _ _ (World.size_alloc _ _).symm | with_reducible exact Blk.new_at _ _ _ ((World.size_setCell _ _ _).trans (World.size_setCell _ _ _)).symm | with_reducible refine Blk.alloc ?_ _ | with_reducible refine Blk.two (a:=.bool false) (b:=.slice none 0 0) ?_ _ _ | with_reducible refine Blk.far ?_ (by simp only [ne_eq]; omega) _)
   case r8=>((repeat (first | with_reducible assumption | with_reducible refine IntV.drewd ?_ | with_reducible refine IntV.allocd ?_ _ | with_reducible refine IntV.store ?_ (n:=false) (b:=none) (l:=0) (m:=0) ?_ _ _ | with_reducible refine IntV.later (by with_reducible assumption) ?_)); all_goals repeat (first | with_reducible refine Blk.later (by with_reducible assumption) ?_ | with_reducible refine Blk.drew ?_ | with_reducible exact Blk.new _ _ _ | with_reducible exact Blk.new_at _ _ _ (World.size_alloc _ _).symm | with_reducible exact Blk.new_at _ _ _ ((World.size_setCell _ _ _).trans (World.size_setCell _ _ _)).symm | with_reducible refine Blk.alloc ?_ _ | with_reducible refine Blk.two (a:=.bool false) (b:=.slice none 0 0) ?_ _ _ | with_reducible refine Blk.far ?_ (by simp only [ne_eq]; omega) _))
 case rest=>
  obtain ⟨g5,g6,rfl,rfl,s0⟩:=hcut
  have e0:∀ n:Nat,signZ false n = (n:Int):=fun n=>by simp [signZ]
  rw [e0,e0] at s0
  have hx0:Sm ((x.natAbs:Nat):Int):=by unfold Sm len at hn ⊢; rw [Int.natAbs_natCast]; exact hn
  have hy0:Sm ((y.natAbs:Nat):Int):=by unfold Sm len at hm ⊢; rw [Int.natAbs_natCast]; exact hm
  have HG:=hide (show Nat.gcd x.natAbs y.natAbs = Nat.gcd x.natAbs y.natAbs from rfl)
  clear hS1 hR c0 c1 d0 d1 f20 f21 f30 f31 hlt4 hda hdb HX0 HY0 e0 hgA hgB hneA hneB hwA hwB HX1 HY1 cxn cyn dxn dyn hsx hsy ha hb hn hm
  generalize hGG:Nat.gcd x.natAbs y.natAbs = GG at HG HP
  have HGG:=hide hGG
  clear hGG HG
  go_wp2_with fail
  go_loopg [] y.natAbs (fun r wr=>∃ A B:Nat,B = r ∧ Sm (A:Int) ∧ Sm (B:Int) ∧ Hid (Nat.gcd A B = GG) ∧ Two w [w.heap.size + 1 + 1] (w.heap.size + 1 + 1 + 1) g5 g6 (A:Int) (B:Int) wr)
  case atStart=>exact ⟨_,_,rfl,hx0,hy0,HGG,s0⟩
  case round=>
   clear s0 hx0 hy0 HGG
   obtain ⟨A,B,hBr,hA,hB,HGG,s⟩:=hrel
   have HBR:=hide hBr
   clear hBr
   obtain ⟨n5,s5,l5,k5,hb5,hi5⟩:=s.b5
   obtain ⟨n6,s6,l6,k6,hb6,hi6⟩:=s.b6
   have hne:=s.ne
   have hl5:=s.lo5
   have hl6:=s.lo6
   have hR:=s.rs
   clear s
   have hl:l6 = (dg BB B).length:=by
    obtain ⟨a',c',e,-,-⟩:=hi6
    injection e with e
    rw [Int.natAbs_natCast] at e
    simp at e
    exact e.2.2.1
   have HL:=hide hl
   obtain ⟨p0,p1,pf⟩:=hb5.c2
   obtain ⟨q0,q1,qf⟩:=hb6.c2
   have pf0:=pf 0
   have pf1:=pf 1
   have qf0:=qf 0
   have qf1:=qf 1
   rcases Nat.eq_zero_or_pos B with h0 | h0
   ·obtain rfl:l6 = 0:=by rw [hl,h0]; rfl
    obtain ⟨_,_,_,_,k0,k1,kf0,kf1,hX4⟩:=Rs.at hR hg4 (Below.refl _ _)
    obtain ⟨e0,e1,-⟩:=(hX4.two (.bool n5) (.slice s5 l5 k5)).c2
    have hI:=hi5.store hX4 (.bool n5) (.slice s5 l5 k5)
    have hBl:=(hR.1.setCell (p:=⟨w.heap.size + 1 + 1,0,none⟩) (by simp; omega) (.bool n5)).setCell (p:=⟨w.heap.size + 1 + 1,1,none⟩) (by simp; omega) (.slice s5 l5 k5)
    have HZ:=hide h0
    clear hl h0 hX4
    go_wp2_with fail
    refine bodyPost_ret (v:=.agg #[.bool n5,.slice s5 l5 k5]) (by simp [results,Try.results70,go_sem,e0,e1]) rfl ?_
    rw [← HP.out,← HGG.out,HZ.out,Nat.gcd_zero_right]
    exact ⟨_,rfl,hI,hBl⟩
   ·have hlp:0 < l6:=by
     rw [hl]
     rcases Nat.eq_zero_or_pos (dg BB B).length with h | h
     ·have:=(dg_eq_nil BB2).1 (List.length_eq_zero_iff.1 h); omega
     ·exact h
    clear hl
    have hlpd:decide (0 < l6) = true:=decide_eq_true hlp
    go_wp2_with fail
    refine (Div_any _ hi5 hi6 hA hB).mono ?_
    rintro e w2 ⟨qq,rr,rfl,hq,hr,hb2⟩
    obtain ⟨qn,qs,ql,qk,rfl⟩:=hq.parts
    obtain ⟨rn,rs,rl,rk,rfl⟩:=hr.parts
    have er:(if (B:Int) = 0 then (0:Int) else (A:Int) % (B:Int)) = ((A % B:Nat):Int):=by rw [if_neg (by omega),Int.natCast_emod]
    rw [er] at hr
    clear hq er
    have hsr:Sm ((A % B:Nat):Int):=by
     unfold Sm len at hB ⊢
     rw [Int.natAbs_natCast] at hB ⊢
     exact Nat.le_trans (dg_len_mono BB2 (Nat.le_of_lt (Nat.mod_lt _ h0))) hB
    have hW3:=(((Below.refl _ w2).alloc (Nat.le_refl _) (.cells #[.bool qn,.slice qs ql qk] 38)).alloc (by simp) (.cells #[.bool rn,.slice rs rl rk] 38))
    have hB8:Blk ((w2.alloc (.cells #[.bool qn,.slice qs ql qk] 38)).alloc (.cells #[.bool rn,.slice rs rl rk] 38)) (w2.heap.size + 1) 38 #[.bool rn,.slice rs rl rk]:=Blk.new_at _ _ _ (World.size_alloc _ _).symm
    have hb53:=Blk.later hW3 (Blk.later hb2 hb5)
    have hb63:=Blk.later hW3 (Blk.later hb2 hb6)
    have hi63:=IntV.later hW3 (IntV.later hb2 hi6)
    have hr3:=IntV.later hW3 hr
    have hR3:=(hR.below hb2).below hW3
    have n58:g5 ≠ w2.heap.size + 1:=by have:=(Blk.later hb2 hb5).lt; omega
    have n68:g6 ≠ w2.heap.size + 1:=by have:=(Blk.later hb2 hb6).lt; omega
    have n85:=n58.symm
    have n86:=n68.symm
    clear p0 p1 pf pf0 pf1 q0 q1 qf qf0 qf1 hb5 hb6 hi5 hi6 hR hb2 hr hW3
    go_upto_region 5 with (fail)
    generalize (w2.alloc (.cells #[.bool qn,.slice qs ql qk] 38)).alloc (.cells #[.bool rn,.slice rs rl rk] 38) = W3 at hB8 hb53 hb63 hi63 hr3 hR3 ⊢
    generalize w2.heap.size + 1 = G8 at *
    obtain ⟨p0,p1,pf⟩:=hb53.c2
    obtain ⟨q0,q1,qf⟩:=hb63.c2
    obtain ⟨r0,r1,rf⟩:=hB8.c2
    have pf0:=pf 0
    have pf1:=pf 1
    have qf0:=qf 0
    have qf1:=qf 1
    have s2:=Two.of (L:=w.heap.size + 1 + 1 + 1) hR3 hne hl5 hl6 (by omega) (fun g hg=>by simp at hg; omega) hb53 hb63 hi63 hr3
    have hne':=hne.symm
    have HLT:=hide (Nat.mod_lt A h0)
    clear pf qf rf hlp hlpd h0
    go_region
    all_goals
     go_wp2_with fail
     go_roundg (A % B)
     case measure=>have h1:=HBR.out; have h2:=HLT.out; omega
     case rel=>exact ⟨B,A % B,rfl,hB,hsr,hide (by rw [← HGG.out,Nat.gcd_comm B,← Nat.gcd_rec,Nat.gcd_comm]),s2.drew⟩

structure OfSt (w:World) (base N:Nat) (v:Value) (ds:List Nat) (L:Nat) (wr:World):Prop where
 own:OwnD wr base v ds
 digs:Digs BB ds
 sum:N = val BB ds + BB ^ ds.length * L
 last:L = 0 → ds.getLast? ≠ some 0
 bel:Below base w wr
 le:base ≤ wr.heap.size
 len:0 < L → BB ^ ds.length ≤ N

theorem OfSt.next {w wr w':World} {base N L:Nat} {ds:List Nat} {v v':Value} (s:OfSt w base N v ds L wr) (hL:0 < L) (r q:Nat) (hq:L = BB * q + r) (hr:r < BB) (ho:OwnD w' base v' (ds ++ [r])) (hb:Below base wr w'):OfSt w base N v' (ds ++ [r]) q w':=by
 have hs:=s.sum
 have e:val BB (ds ++ [r]) + BB ^ (ds ++ [r]).length * q = N:=by
  rw [hs,val_snoc,List.length_append,List.length_singleton,Nat.pow_succ,hq,Nat.mul_add,Nat.mul_assoc]
  omega
 refine ⟨ho,s.digs.snoc hr,e.symm,fun h0=>?_,s.bel.trans hb,Nat.le_trans s.le hb.size,fun h0=>?_⟩
 ·subst h0; simp; omega
 ·rw [← e]
  refine Nat.le_trans ?_ (Nat.le_add_left _ _)
  exact Nat.le_mul_of_pos_right _ h0

theorem pow_big {k N:Nat} (h:BB ^ k ≤ N) (hN:N ≤ 9223372036854775808):k ≤ 2:=by
 rcases Nat.lt_or_ge 2 k with h3 | h3
 ·have:BB ^ 3 ≤ BB ^ k:=Nat.pow_le_pow_right (by decide) h3
  have:BB ^ 3 = 1000000000000000000000000000:=by rw [BB_eq]
  omega
 ·exact h3

theorem u64_of_neg {n:Int} (h1:-9223372036854775808 ≤ n) (h:n < 0):IntKind.u64.wrap (-IntKind.u64.wrap n) = (n.natAbs:Int):=by
 have hw:∀ m:Int,IntKind.u64.wrap m = m % 18446744073709551616:=fun m=>by simp [IntKind.wrap,IntKind.bits,IntKind.signed]
 rw [hw,hw]
 omega
theorem u64_of_nn {n:Int} (h2:n ≤ 9223372036854775807) (h:¬ n < 0):IntKind.u64.wrap n = (n.natAbs:Int):=by
 rw [IntWalk.u64_in n (by omega)]; omega

set_option maxRecDepth 100000 in
set_option maxHeartbeats 1600000 in
theorem Of_any (n:Int) (w:World) (h1:-9223372036854775808 ≤ n) (h2:n ≤ 9223372036854775807) :
  Calls Try.prog 21 #[.int .i64 n] w (IntPost w n):=by
 generalize hP:IntPost w n = Post
 have HP:=hide hP
 clear hP
 have hZ0:=Blk.new w 38 #[.bool false,.slice none 0 0]
 have hB0:Below w.heap.size w (w.alloc (.cells #[.bool false,.slice none 0 0] 38)):=(Below.refl _ _).alloc (Nat.le_refl _) _
 go_enter Try.func21,Try.ntmps21
 go_upto_if 8 with (fail)
 generalize hlb:decide (n < 0) = lb
 have HLB:=hide hlb
 clear hlb
 go_cut [3] from 9 to 10 (fun v3 wc=>(w.alloc (.cells #[.bool false,.slice none 0 0] 38)) = wc ∧ v3 = .int .u64 (n.natAbs:Int))
 case first=>
  cases lb with
  | true=>
   have hlt:n < 0:=by simpa using HLB.out
   have e:=u64_of_neg h1 hlt
   go_wp2_with fail
   go_meet
   exact ⟨rfl,rfl⟩
  | false=>
   have hlt:¬ n < 0:=by simpa using HLB.out
   have E:=hide (u64_of_nn h2 hlt)
   go_wp2_with fail
   go_meet
   exact ⟨rfl,by rw [E.out]⟩
 case rest=>
  obtain ⟨rfl,rfl⟩:=hcut
  obtain ⟨W,hW⟩:∃ W,w.alloc (.cells #[.bool false,.slice none 0 0] 38) = W:=⟨_,rfl⟩
  have hsz:W.heap.size = w.heap.size + 1:=by rw [← hW,World.size_alloc]
  have HSZ:=hide hsz
  rw [hW] at hZ0 hB0 ⊢
  clear hW hsz
  have hN:n.natAbs ≤ 9223372036854775808:=by omega
  have HN:=hide (show (signZ lb n.natAbs) = n by
   have:=HLB.out
   cases lb with
   | true=>simp at this; simp [signZ]; omega
   | false=>simp at this; simp [signZ]; omega)
  have HNN:=hide (show decide (n < 0) = lb from HLB.out)
  generalize n.natAbs = N at *
  have s0:OfSt W (w.heap.size + 1) N (.slice none 0 0) [] N W:=⟨OwnD.nil _ _,Digs.nil _,by simp [val],fun _=>by simp,Below.refl _ _,by rw [HSZ.out]; exact Nat.le_refl _,fun h=>by simp; omega⟩
  go_wp2_with fail
  go_loopg [3,4] N (fun r l v wr=>∃ (L:Nat) (ds:List Nat),L = r ∧ l = .int .u64 (L:Int) ∧ OfSt W (w.heap.size + 1) N v ds L wr)
  case atStart=>exact ⟨N,[],rfl,rfl,s0⟩
  case round=>
   obtain ⟨L,ds,hLr,rfl,s⟩:=hrel
   have HL:=hide hLr
   clear hLr s0
   rcases Nat.eq_zero_or_pos L with h0 | h0
   ·subst h0
    have hc:Canon BB ds:=⟨s.digs,s.last rfl⟩
    have hv:N = val BB ds:=by have:=s.sum; simpa using this
    obtain ⟨va,vc,rfl⟩:=own_slice s.own
    obtain ⟨hD,hF⟩:=own_dg s.own
    have hZ1:=hZ0.below s.bel (Nat.lt_succ_self _)
    have hB1:=hB0.trans (s.bel.mono (by omega))
    have hI:IntV wr (.agg #[.bool lb,.slice va ds.length vc]) n:=by
     have e:n.natAbs = val BB ds:=by rw [← HN.out,signZ_abs,hv]
     refine ⟨va,vc,?_,?_,?_⟩
     ·rw [HNN.out,e,← hc.eq_dg BB2]
     ·rw [e,← hc.eq_dg BB2]; exact hF
     ·rw [e,← hc.eq_dg BB2]; exact hD
    have hI2:=hI.store hZ1 (.bool lb) (.slice va ds.length vc)
    obtain ⟨k0,k1,kf⟩:=hZ1.c2
    obtain ⟨e0,e1,-⟩:=(hZ1.two (.bool lb) (.slice va ds.length vc)).c2
    have kf0:=kf 0
    have kf1:=kf 1
    have hlb:=HNN.out
    clear hv s
    go_wp2_with fail
    refine bodyPost_ret (v:=.agg #[.bool lb,.slice va ds.length vc]) (by simp [results,Try.results21,go_sem,e0,e1]) rfl ?_
    rw [← HP.out]
    exact ⟨_,rfl,hI2,(hB1.setCell (Nat.le_refl _) _).setCell (Nat.le_refl _) _⟩
   ·have hBB:=BB_eq
    have hLN:L ≤ N:=by
     have h1:=s.sum
     have h2:1 * L ≤ BB ^ ds.length * L:=Nat.mul_le_mul_right _ (Nat.pos_of_ne_zero (by simp; omega))
     omega
    have hlen:ds.length ≤ 2:=pow_big (s.len h0) hN
    obtain ⟨r,hr⟩:∃ r:Nat,r = L % 1000000000:=⟨_,rfl⟩
    obtain ⟨q,hq⟩:∃ q:Nat,q = L / 1000000000:=⟨_,rfl⟩
    have hr1:(L:Int) % 1000000000 = (r:Int):=by omega
    have hq1:(L:Int) / 1000000000 = (q:Int):=by omega
    have hr9:r < 1000000000:=by omega
    have HF:Hid (L = BB * q + r ∧ r < BB ∧ q < L):=hide (by rw [BB_eq]; omega)
    clear hr hq hBB
    have ho1:=s.own.alloc (.cells #[.int .u32 (r:Int)] 85)
    have hle1:=s.le
    go_wp2_with (at_builtin; refine wpList_append_dig rfl (.tmp 15) (.tmp 19) rfl (w.heap.size + 1) _ ds rfl ho1 ⟨_,0,none⟩ r rfl ?c1 ?c2 ?c3 ?_)
    case c1=>rw [add_plain]; exact (Blk.new _ _ _).cell 0
    case c2=>omega
    case c3=>simp; omega
    intro v' w2 ho2 hb2
    have hb3:Below (w.heap.size + 1) wr w2:=((Below.refl _ _).alloc hle1 _).trans hb2
    have s2:=s.next h0 r q HF.out.1 HF.out.2.1 ho2 hb3
    clear s ho1 ho2 hb2 hb3 hr1
    go_wp2_with fail
    go_roundg q
    case measure=>have h1:=HL.out; have h2:=HF.out.2.2; omega
    case rel=>exact ⟨q,_,rfl,rfl,s2⟩
end Go.Proofs.Ytphjffbldhhdiaa
