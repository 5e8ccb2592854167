/- Texts in one file: RNum, RDig, ROf, Keep, RForm, RArith, RMul, RDiv, RGcd, RText, Order, Rules, Told. -/
import Derived.Test.YtphjffbldhhdiaaNa
import Derived.Test.YtphjffbldhhdiaaNb
import Derived.Deep.RegionHeld3
import Derived.RegionTactic
import Derived.BigRegion
import Derived.Test.YtphjffbldhhdiaaNc
import Derived.Laws.IdiomStrings
namespace Go.Proofs.Ytphjffbldhhdiaa
open Go.RowKit

theorem size_i64 (w:World):(sizeOf 3).run Try.prog w = .ok 1 w:=by kernel_rfl
theorem elem64:Try.prog.elem 26 = 3:=by kernel_rfl
theorem run_upto64 (w:World) (a:Option Addr) (len cap h:Nat) (y:Int) (hy:y = (h:Int)) (h2:h ≤ cap) :
  (Instr.slice 26 (.slice a len cap) none (some (.int .i64 y)) none).run Try.prog w = .ok (.slice a h cap) w:=
 run_upto w 26 1 (by rw [elem64]; exact Try.underlying26) (by rw [elem64]; exact size_i64 w) a len cap h y hy h2
theorem info64:(Try.prog.info? 3).map (fun i=>(i.zero,i.size,i.bytes)) = some (some (.int .i64 0),1,8):=by kernel_rfl

def OwnE (w:World) (base:Nat) (v:Value) (ds:List Nat):Prop:=w.ownsRow base 3 1 v ds.length (dcells .i64 ds)

theorem OwnE.nil (w:World) (base:Nat):OwnE w base (.slice none 0 0) []:=⟨rfl,.inl ⟨rfl,rfl⟩⟩
theorem OwnE.alloc {w:World} {base:Nat} {v:Value} {ds:List Nat} (h:OwnE w base v ds) (o:Obj):OwnE (w.alloc o) base v ds:=World.ownsRow.alloc h o
theorem OwnE.below {w w':World} {base:Nat} {v:Value} {ds:List Nat} (h:OwnE w base v ds) (hb:Below w.heap.size w w'):OwnE w' base v ds:=
 h.kept (row:=none) ⟨hb.os,hb.tape,hb.output,hb.size,fun i hi _=>hb.block i hi⟩ (by cases v.ownBlock <;> simp)

theorem wpList_append_int {w:World} {ops:Array Oper} {rest:List Oper} {o:Oper} {a:Act} {Q:Exit → Act → World → Prop} (hgd:o.guard = none) (s x:Operand)
  (ho:o.op = .call { callee:=.builtin .append,args:=#[s,x],argTypes:=#[26,26] })
  (base:Nat) (v:Value) (ds:List Nat) (hs:a.eval s = v) (hown:OwnE w base v ds) (ad:Addr) (d:Nat) (hx:a.eval x = .slice (some ad) 1 1) (hc:w.cell? (ad.add 0) = some (.int .i64 (d:Int)))
  (hlen:ds.length + 1 ≤ 2199023255552) (hbase:base ≤ w.heap.size)
  (h:∀ v' w',OwnE w' base v' (ds ++ [d]) → Below base w w' → wpList Try.prog ops Q rest (a.put o.dst v') w'):wpList Try.prog ops Q (o :: rest) a w:=by
 obtain ⟨i0,hi0,hz0,hz1,hz2⟩:=info_parts info64
 have hnews:∀ j u,(dcells .i64 [d])[j]? = some u → w.cell? (ad.add j) = some u:=by
  intro j u hj
  rcases j with _ | j
  ·simp [dcells] at hj; rw [hc,hj]
  ·simp [dcells] at hj
 refine wpList_append_own w hgd s x 26 ho base 3 i0 (.int .i64 0) 1 8 Try.underlying26 hi0 hz0 hz1 hz2 rfl (by decide) v ds.length (dcells .i64 ds) hs hown ad 1 1 (dcells .i64 [d]) hx rfl hnews (dcells_one _ _) (by unfold maxLen; omega) (by omega) hbase (fun v' w' h2 h3 _=>?_)
 refine h v' w' ?_ (below_of_grown h3 (fun g hg=>(World.ownsRow.lt hown g hg).1) hbase)
 unfold OwnE
 rw [dcells_app,List.length_append]
 exact h2

def NumV (w:World) (v:Value) (z:Int):Prop:=
 ∃ a cap,v = .agg #[.bool (decide (z < 0)),.slice a (dg 10 z.natAbs).length cap] ∧ Fit a (dg 10 z.natAbs).length cap ∧ Dg .i64 w a (dg 10 z.natAbs)
def dlen (z:Int):Nat:=(dg 10 z.natAbs).length
def NumPost (w:World) (z:Int) (e:Ending) (w':World):Prop:=∃ r,e = .returned r ∧ NumV w' r z ∧ Below w.heap.size w w'
def DecPost (w:World) (n L:Nat) (e:Ending) (w':World):Prop:=
 ∃ a cap ds,e = .returned (.slice a ds.length cap) ∧ Fit a ds.length cap ∧ Dg .i64 w' a ds ∧ Digs 10 ds ∧ val 10 ds = n ∧ ds.length ≤ L ∧ Below w.heap.size w w'
theorem T2:2 ≤ 10:=by decide
theorem NumV.below {w w':World} {B:Nat} {v:Value} {z:Int} (h:NumV w v z) (hb:Below B w w') (hB:w.heap.size ≤ B):NumV w' v z:=by
 obtain ⟨a,cap,e,hc,hd⟩:=h
 exact ⟨a,cap,e,hc,hd.below hb hB⟩
theorem NumV.drewN {w:World} {v:Value} {z:Int} (h:NumV w v z) (n:Nat):NumV (w.drewN n) v z:=h
theorem NumV.zero (w:World):NumV w (.agg #[.bool false,.slice none 0 0]) 0:=⟨none,0,rfl,⟨Nat.zero_le _,fun _=>rfl⟩,Dg.nil _ _⟩
theorem NumV.parts {w:World} {v:Value} {z:Int} (h:NumV w v z):∃ (n:Bool) (a:Option Addr) (l k:Nat),v = .agg #[.bool n,.slice a l k]:=by
 obtain ⟨a,cap,e,_,_⟩:=h
 exact ⟨_,_,_,_,e⟩
theorem numV_of {w:World} {neg:Bool} {a:Option Addr} {cap:Nat} {ds:List Nat} (h:Digs 10 ds) (hd:Dg .i64 w a (trim ds)) (hf:Fit a (trim ds).length cap) :
  NumV w (.agg #[.bool (neg && decide (0 < (trim ds).length)),.slice a (trim ds).length cap]) (signZ neg (val 10 ds)):=by
 have e:(signZ neg (val 10 ds)).natAbs = val 10 ds:=by cases neg <;> simp [signZ]
 have e2:dg 10 (signZ neg (val 10 ds)).natAbs = trim ds:=by rw [e,trim_dg T2 h]
 have e3:(neg && decide (0 < (trim ds).length)) = decide (signZ neg (val 10 ds) < 0):=by
  have hz:trim ds = [] ↔ val 10 ds = 0:=by rw [trim_dg T2 h]; exact dg_eq_nil T2
  cases neg with
  | false=>simp [signZ]
  | true=>
   rw [Bool.eq_iff_iff]
   simp only [Bool.true_and,decide_eq_true_eq,signZ,if_true]
   constructor
   ·intro h1
    have:val 10 ds ≠ 0:=fun h2=>by rw [hz.2 h2] at h1; simp at h1
    omega
   ·intro h1
    rcases Nat.eq_zero_or_pos (trim ds).length with h2 | h2
    ·have:=hz.1 (List.eq_nil_of_length_eq_zero h2); omega
    ·exact h2
 exact ⟨a,cap,by rw [e2,e3],by rw [e2]; exact hf,by rw [e2]; exact hd⟩
theorem Dg.trim {k:IntKind} {w:World} {a:Option Addr} {ds:List Nat} (h:Dg k w a ds):Dg k w a (trim ds):=by
 obtain ⟨m,_,e⟩:=(trim_facts 10 _ ds rfl).2.2
 rw [e]
 exact h.take m
theorem Fit.trim {a:Option Addr} {cap:Nat} {ds:List Nat} (h:Fit a ds.length cap):Fit a (trim ds).length cap:=⟨Nat.le_trans (trim_len ds) h.1,h.2⟩

set_option maxHeartbeats 800000 in
theorem rcut_any (a:Option Addr) (cap:Nat) (ds:List Nat) (w:World) (hd:Dg .i64 w a ds) (hf:Fit a ds.length cap) (hn:ds.length ≤ 2199023255552) :
  Calls Try.prog 64 #[.slice a ds.length cap] w fun e w'=>e = .returned (.slice a (trim ds).length cap) ∧ w = w':=by
 generalize hr:(trim ds).length = r
 have HR:=hide hr
 clear hr
 obtain ⟨hfc,-⟩:=hf
 go_enter Try.func64,Try.ntmps64
 go_wp2_with fail
 go_loop [3] (fun v=>∃ j:Nat,j ≤ ds.length ∧ v = .int .i64 (j:Int) ∧ Hid (trim ds = trim (ds.take j))) (fun v=>(intOf v).toNat)
 case atStart=>exact ⟨ds.length,Nat.le_refl _,rfl,hide (by rw [List.take_length])⟩
 case round=>
  obtain ⟨j,hj,rfl,HT⟩:=hrel
  rcases Nat.eq_zero_or_pos j with h0 | h0
  ·subst h0
   have hz:r = 0:=by rw [← HR.out,HT.out]; rfl
   subst hz
   have hs1:=fun w=>run_upto64 w a ds.length cap 0 0 rfl (by omega)
   go_wp2_with fail
   go_ret
   exact ⟨rfl,rfl⟩
  ·obtain ⟨i,rfl⟩:∃ i,j = i + 1:=⟨j - 1,by omega⟩
   have hi:i < ds.length:=by omega
   obtain ⟨b,off,rfl,hc,_⟩:=hd.at hi
   have hpos:decide ((0:Int) < ((i + 1:Nat):Int)) = true:=by simp
   by_cases hz:ds[i] = 0
   ·have HT2:Hid (trim ds = trim (ds.take i)):=hide (by rw [HT.out,trim_take hi hz])
    rw [hz] at hc
    go_wp2_with fail
    go_round
    case rel=>exact ⟨i,by omega,by go_num,HT2⟩
    case measure=>simp [intOf]
   ·have HT2:Hid (trim ds = ds.take (i + 1)):=hide (by rw [HT.out,trim_take_self hi hz])
    have e1:((ds[i]:Int) == 0) = false:=beq_eq_false_iff_ne.2 (by omega)
    have er:r = i + 1:=by rw [← HR.out,HT2.out,List.length_take]; omega
    subst er
    have hs1:=fun w=>run_upto64 w (some ⟨b,off,none⟩) ds.length cap (i + 1) ((i + 1:Nat):Int) rfl (by omega)
    generalize ds[i] = d at hc e1
    go_wp2_with fail
    go_ret
    exact ⟨rfl,rfl⟩

set_option maxHeartbeats 800000 in
theorem make1_any (neg:Bool) (a:Option Addr) (cap:Nat) (ds:List Nat) (w:World) (hd:Dg .i64 w a ds) (hD:Digs 10 ds) (hf:Fit a ds.length cap) (hn:ds.length ≤ 2199023255552) :
  Calls Try.prog 36 #[.bool neg,.slice a ds.length cap] w (NumPost w (signZ neg (val 10 ds))):=by
 generalize hP:NumPost w (signZ neg (val 10 ds)) = Post
 have HP:=hide hP
 clear hP
 have hX:=Blk.new w 41 #[.bool false,.slice none 0 0]
 have hb0:Below w.heap.size w (w.alloc (.cells #[.bool false,.slice none 0 0] 41)):=(Below.refl _ _).alloc (Nat.le_refl _) _
 have hd0:=hd.below hb0 (Nat.le_refl _)
 go_enter Try.func36,Try.ntmps36
 go_wp2_with fail
 generalize w.alloc (.cells #[.bool false,.slice none 0 0] 41) = W at hb0 hX hd0 ⊢
 refine (rcut_any a cap ds W hd0 hf hn).mono ?_
 rintro e w1 ⟨rfl,rfl⟩
 have hV:=numV_of (neg:=neg) hD (hd.trim) hf.trim
 have HV:=hide hV
 have hl:=trim_len ds
 clear hV
 obtain ⟨c0,c1,cf⟩:=hX.c2
 have hlt:=hX.lt
 have cf0:=cf 0
 have cf1:=cf 1
 generalize (trim ds).length = r at *
 have hB2:=fun (u:Value)=>(hb0.setCell (p:=⟨w.heap.size,0,none⟩) (Nat.le_refl _) u).setCell (p:=⟨w.heap.size,1,none⟩) (Nat.le_refl _) (.slice a r cap)
 have HB2:=hide hB2
 clear hB2
 cases neg with
 | false=>
  obtain ⟨d0,d1,-⟩:=(hX.two (.bool false) (.slice a r cap)).c2
  go_wp2_with fail
  refine bodyPost_ret (v:=.agg #[.bool false,.slice a r cap]) (by simp [results,Try.results36,go_sem,d0,d1]) rfl ?_
  rw [← HP.out]
  exact ⟨_,rfl,HV.out.below (HB2.out _) (Nat.le_refl _),HB2.out _⟩
 | true=>
  obtain ⟨d0,d1,-⟩:=(hX.two (.bool (decide (0 < r))) (.slice a r cap)).c2
  go_wp2_with fail
  refine bodyPost_ret (v:=.agg #[.bool (decide (0 < r)),.slice a r cap]) (by simp [results,Try.results36,go_sem,d0,d1]) rfl ?_
  rw [← HP.out]
  exact ⟨_,rfl,HV.out.below (HB2.out _) (Nat.le_refl _),HB2.out _⟩

theorem cmp_atb {b:Nat} {x y:List Nat} (hx:Digs b x) (hl:x.length = y.length) {i:Nat} (hi:i < x.length) (hs:x.drop (i + 1) = y.drop (i + 1)) (h:x[i] < y[i]'(by omega)):val b x < val b y:=by
 have e1:=val_take_drop b x i (by omega)
 have e2:=val_take_drop b y i (by omega)
 rw [List.drop_eq_getElem_cons hi,val] at e1
 rw [List.drop_eq_getElem_cons (show i < y.length by omega),val] at e2
 have hlt:=val_lt (hx.take i)
 rw [List.length_take,Nat.min_eq_left (by omega)] at hlt
 rw [hs] at e1
 have hm:b ^ i * (x[i] + 1 + b * val b (y.drop (i + 1))) ≤ b ^ i * (y[i] + b * val b (y.drop (i + 1))):=Nat.mul_le_mul_left _ (by omega)
 have e3:b ^ i * (x[i] + 1 + b * val b (y.drop (i + 1))) = b ^ i * (x[i] + b * val b (y.drop (i + 1))) + b ^ i:=by
  rw [show x[i] + 1 + b * val b (y.drop (i + 1)) = (x[i] + b * val b (y.drop (i + 1))) + 1 by omega,Nat.mul_add,Nat.mul_one]
 omega
theorem tval_take_succ {ds:List Nat} {j:Nat} (hj:j < ds.length):val 10 (ds.take (j + 1)) = val 10 (ds.take j) + 10 ^ j * ds[j]:=by
 rw [List.take_succ_eq_append_getElem hj,val_snoc,List.length_take,Nat.min_eq_left (by omega)]
theorem tval_take_ge {ds:List Nat} {j:Nat} (hj:ds.length ≤ j):val 10 (ds.take (j + 1)) = val 10 (ds.take j) + 10 ^ j * 0:=by
 rw [List.take_of_length_le hj,List.take_of_length_le (by omega)]; rfl

set_option maxHeartbeats 800000 in
theorem rcmp_any (a b:Option Addr) (ca cb:Nat) (x y:List Nat) (w:World) (hx:Dg .i64 w a x) (hy:Dg .i64 w b y) (cx:Canon 10 x) (cy:Canon 10 y) (hn:x.length ≤ 4611686018427387904) :
  Calls Try.prog 66 #[.slice a x.length ca,.slice b y.length cb] w fun e w'=>e = .returned (.int .i64 (ordZ (val 10 x) (val 10 y))) ∧ ∃ n,w' = w.drewN n:=by
 generalize hr:ordZ (val 10 x) (val 10 y) = r
 have HR:=hide hr
 clear hr
 by_cases hl:x.length = y.length
 ·have e0:((x.length:Int) != (y.length:Int)) = false:=by simp; omega
  have e0':((x.length:Int) == (y.length:Int)) = true:=by simp; omega
  have HL:=hide hl
  clear hl
  go_enter Try.func66,Try.ntmps66
  go_wp2_with fail
  go_loopg [5] x.length (fun k v wr=>∃ n:Nat,v = .int .i64 ((k:Int) - 1) ∧ k ≤ x.length ∧ Hid (x.drop k = y.drop k) ∧ wr = w.drewN n)
  case atStart=>exact ⟨0,by have:=HL.out; simp <;> omega,Nat.le_refl _,hide (by rw [List.drop_length,HL.out,List.drop_length]),rfl⟩
  case round=>
   obtain ⟨n,rfl,hk,HD,rfl⟩:=hrel
   rcases gk with _ | k
   ·have hxy:x = y:=by have:=HD.out; simpa using this
    have HV:Hid (ordZ (val 10 x) (val 10 y) = 0):=hide (by rw [hxy]; unfold ordZ; rw [if_neg (by omega),if_neg (by omega)])
    clear hxy
    rw [show (((0:Nat):Int) - 1) = -1 by omega]
    go_wp2_with fail
    go_ret
    exact ⟨by rw [← HR.out,HV.out]; rfl,n,rfl⟩
   ·have hk1:k < x.length:=by omega
    have hk2:k < y.length:=by have:=HL.out; omega
    obtain ⟨p,po,rfl,hc,_⟩:=hx.at hk1
    obtain ⟨q,qo,rfl,hd,_⟩:=hy.at hk2
    have HU1:Hid (x[k] < y[k] → ordZ (val 10 x) (val 10 y) = -1):=hide (fun h=>by
     have:=cmp_atb cx.1 HL.out hk1 HD.out h
     unfold ordZ; rw [if_pos (by omega)])
    have HU2:Hid (y[k] < x[k] → ordZ (val 10 x) (val 10 y) = 1):=hide (fun h=>by
     have:=cmp_atb cy.1 HL.out.symm hk2 HD.out.symm h
     unfold ordZ; rw [if_neg (by omega),if_pos (by omega)])
    have HU3:Hid (x[k] = y[k] → x.drop k = y.drop k):=hide (fun h=>by
     rw [List.drop_eq_getElem_cons hk1,List.drop_eq_getElem_cons hk2,h,HD.out])
    generalize x[k] = c at hc HU1 HU2 HU3
    generalize y[k] = d at hd HU1 HU2 HU3
    rw [show (((k + 1:Nat):Int) - 1) = (k:Int) by omega]
    clear HD
    rcases Nat.lt_trichotomy c d with h | h | h
    ·have t1:((c:Int) != (d:Int)) = true:=by simp; omega
     have t1':((c:Int) == (d:Int)) = false:=by simp; omega
     have t2:decide ((c:Int) < (d:Int)) = true:=by simp; omega
     have t2':decide (c < d) = true:=by simp; omega
     have HV:=hide (HU1.out h)
     clear HU1 HU2 HU3 h
     go_wp2_with fail
     go_quiet (fail)
     go_wp2_with fail
     go_quiet (fail)
     go_wp2_with fail
     go_ret
     exact ⟨by rw [← HR.out,HV.out]; rfl,drew3⟩
    ·subst h
     have HV:=hide (HU3.out rfl)
     clear HU1 HU2 HU3
     have t1:((c:Int) != (c:Int)) = false:=by simp
     go_wp2_with fail
     go_quiet (fail)
     go_wp2_with fail
     go_roundg k
     case measure=>omega
     case rel=>exact ⟨_,by go_num,by omega,HV,rfl⟩
    ·have t1:((c:Int) != (d:Int)) = true:=by simp; omega
     have t1':((c:Int) == (d:Int)) = false:=by simp; omega
     have t2:decide ((c:Int) < (d:Int)) = false:=by simp; omega
     have t2':decide (c < d) = false:=by simp; omega
     have HV:=hide (HU2.out h)
     clear HU1 HU2 HU3 h
     go_wp2_with fail
     go_quiet (fail)
     go_wp2_with fail
     go_quiet (fail)
     go_wp2_with fail
     go_ret
     exact ⟨by rw [← HR.out,HV.out]; rfl,drew3⟩
 ·have e0:((x.length:Int) != (y.length:Int)) = true:=by simp; omega
  have e0':((x.length:Int) == (y.length:Int)) = false:=by simp; omega
  rcases Nat.lt_or_gt_of_ne hl with h | h
  ·have hlt:(x.length:Int) < (y.length:Int):=by omega
   have HV:Hid (ordZ (val 10 x) (val 10 y) = -1):=hide (by have:=cx.lt_of_len cy h; unfold ordZ; rw [if_pos (by omega)])
   clear hl h
   go_enter Try.func66,Try.ntmps66
   go_wp2_with fail
   go_ret
   exact ⟨by rw [← HR.out,HV.out]; rfl,0,rfl⟩
  ·have hlt:¬ (x.length:Int) < (y.length:Int):=by omega
   have HV:Hid (ordZ (val 10 x) (val 10 y) = 1):=hide (by have:=cy.lt_of_len cx h; unfold ordZ; rw [if_neg (by omega),if_pos (by omega)])
   clear hl h
   go_enter Try.func66,Try.ntmps66
   go_wp2_with fail
   go_ret
   exact ⟨by rw [← HR.out,HV.out]; rfl,0,rfl⟩

theorem own_fresh {w:World} {base:Nat} {e:TypeId} {size:Nat} {a:Option Addr} {l c n:Nat} {xs:List Value} (h:w.ownsRow base e size (.slice a l c) n xs):∀ ad,a = some ad → base ≤ ad.block:=by
 intro ad had
 subst had
 rcases h.2 with ⟨hv,_⟩ | ⟨g,_,_,hv,hg,_⟩
 ·cases hv
 ·injection hv with h1
  injection h1 with h1
  rw [h1]
  exact hg
theorem own_empty (w:World):OwnE (w.alloc (.cells #[] 3)) w.heap.size (.slice (some ⟨w.heap.size,0,none⟩) 0 0) []:=
 World.ownsRow_made w #[] 0 (Nat.le_refl _) (by decide) rfl

theorem sum_stepb {b A B V c d e P q r:Nat} (h:A + B = V + P * c) (hq:c + d + e = b * q + r):(A + P * d) + (B + P * e) = (V + P * r) + (P * b) * q:=by
 have h1:P * (c + d + e) = P * (b * q + r):=by rw [hq]
 rw [Nat.mul_add,Nat.mul_add,Nat.mul_add,← Nat.mul_assoc] at h1
 omega
structure AddSt (w:World) (base:Nat) (x y:List Nat) (j:Nat) (v:Value) (ds:List Nat) (c:Nat) (wr:World):Prop where
 own:OwnE wr base v ds
 len:ds.length = j
 digs:Digs 10 ds
 sum:val 10 (x.take j) + val 10 (y.take j) = val 10 ds + 10 ^ j * c
 car:c ≤ 1
 bel:Below base w wr
 le:base ≤ wr.heap.size
theorem AddSt.next {w wr w':World} {base j c:Nat} {x y ds:List Nat} {v v':Value} (s:AddSt w base x y j v ds c wr) (d e q r:Nat) (hd:val 10 (x.take (j + 1)) = val 10 (x.take j) + 10 ^ j * d) (he:val 10 (y.take (j + 1)) = val 10 (y.take j) + 10 ^ j * e) (hq:c + d + e = 10 * q + r) (hr:r < 10) (hq1:q ≤ 1)
  (ho:OwnE w' base v' (ds ++ [r])) (hb:Below base wr w'):AddSt w base x y (j + 1) v' (ds ++ [r]) q w':=by
 refine ⟨ho,by simp [s.len],s.digs.snoc hr,?_,hq1,s.bel.trans hb,Nat.le_trans s.le hb.size⟩
 rw [hd,he,val_snoc,s.len,Nat.pow_succ]
 exact sum_stepb s.sum hq

set_option maxRecDepth 100000 in
set_option maxHeartbeats 1600000 in
theorem radd_any (p q:Option Addr) (cp cq:Nat) (X Y:List Nat) (w:World) (hX:Dg .i64 w p X) (hY:Dg .i64 w q Y) (dX:Digs 10 X) (dY:Digs 10 Y) (hn:X.length ≤ 1099511627776) (hm:Y.length ≤ 1099511627776) :
  Calls Try.prog 65 #[.slice p X.length cp,.slice q Y.length cq] w (DecPost w (val 10 X + val 10 Y) (max X.length Y.length + 1)):=by
 generalize hP:DecPost w (val 10 X + val 10 Y) (max X.length Y.length + 1) = Post
 have HP:=hide hP
 clear hP
 obtain ⟨mx,hmx⟩:∃ mx,mx = max X.length Y.length:=⟨_,rfl⟩
 have hx1:X.length ≤ mx:=by omega
 have hy1:Y.length ≤ mx:=by omega
 have hmx2:mx ≤ 1099511627776:=by omega
 have HMX:=hide hmx
 clear hmx
 obtain ⟨W,hW⟩:∃ W,w.alloc (.cells #[] 3) = W:=⟨_,rfl⟩
 have s0:AddSt w w.heap.size X Y 0 (.slice (some ⟨w.heap.size,0,none⟩) 0 0) [] 0 W:=by
  rw [← hW]
  exact ⟨own_empty w,rfl,Digs.nil _,by simp [val],by omega,(Below.refl _ _).alloc (Nat.le_refl _) _,by simp⟩
 go_enter Try.func65,Try.ntmps65
 go_wp2_with fail
 go_loopg [5,6,7] (mx + 1) (fun k v c i wr=>∃ (j:Nat) (ds:List Nat) (cc:Nat),j + k = mx + 1 ∧ (k = 0 → cc = 0) ∧ i = .int .i64 (j:Int) ∧ c = .int .i64 (cc:Int) ∧ AddSt w w.heap.size X Y j v ds cc wr)
 case atStart=>exact ⟨0,[],0,by omega,fun _=>rfl,rfl,rfl,s0⟩
 case round=>
  obtain ⟨j,ds,cc,hjr,hk0,rfl,rfl,s⟩:=hrel
  have HJ:=hide hjr
  have hcar:=s.car
  have hlen:=s.len
  have hjle:j ≤ mx + 1:=by omega
  have hk1:j = mx + 1 → cc = 0:=fun h=>hk0 (by omega)
  have HK:=hide hk1
  clear hjr s0 hk0 hk1 hW
  rcases Nat.lt_or_ge j X.length with hj | hj
  ·rcases Nat.lt_or_ge j Y.length with hk | hk
   ·obtain ⟨b1,o1,rfl,hc1,hl1⟩:=hX.at hj
    replace hc1:=(s.bel.cell (p:=⟨b1,o1 + j,none⟩) hl1).trans hc1
    have hdB:=dX.at hj
    have HD:=hide (tval_take_succ (ds:=X) hj)
    have tx:decide (j < X.length) = true:=decide_eq_true hj
    obtain ⟨b2,o2,rfl,hc2,hl2⟩:=hY.at hk
    replace hc2:=(s.bel.cell (p:=⟨b2,o2 + j,none⟩) hl2).trans hc2
    have heB:=dY.at hk
    have HE:=hide (tval_take_succ (ds:=Y) hk)
    have ty:decide (j < Y.length) = true:=decide_eq_true hk
    have HN:=hide (fun (w':World) (v':Value) (q r:Nat)=>AddSt.next (w':=w') (v':=v') s X[j] Y[j] q r HD.out HE.out)
    clear HD HE
    generalize X[j] = d at hc1 hdB HN
    generalize Y[j] = e at hc2 heB HN
    have hjm:j ≤ mx:=by omega
    obtain ⟨r,hr⟩:∃ r:Nat,r = (cc + d + e) % 10:=⟨_,rfl⟩
    obtain ⟨q,hq⟩:∃ q:Nat,q = (cc + d + e) / 10:=⟨_,rfl⟩
    have hr1:((cc:Int) + (d:Int) + (e:Int)) % 10 = (r:Int):=by omega
    have hq1:((cc:Int) + (d:Int) + (e:Int)) / 10 = (q:Int):=by omega
    have HF:Hid (cc + d + e = 10 * q + r ∧ r < 10 ∧ q ≤ 1 ∧ (mx ≤ j → q = 0)):=hide ⟨by omega,by omega,by omega,fun h=>by omega⟩
    clear hr hq
    have ho1:=s.own.alloc (.cells #[.int .i64 (r:Int)] 3)
    have hle1:=s.le
    go_wp2_with (at_builtin; refine wpList_append_int rfl (.tmp 45) (.tmp 48) rfl w.heap.size _ ds rfl ho1 ⟨_,0,none⟩ r rfl ?c1 ?c2 ?c3 ?_)
    case c1=>rw [add_plain]; exact (Blk.new _ _ _).cell 0
    case c2=>omega
    case c3=>simp; omega
    intro v' w2 ho2 hb2
    have hb3:Below w.heap.size wr w2:=((Below.refl _ _).alloc hle1 _).trans hb2
    have s2:=HN.out w2 v' q r HF.out.1 HF.out.2.1 HF.out.2.2.1 ho2 hb3
    have HQ:=hide HF.out.2.2.2
    have HQ1:=hide hq1
    clear s ho1 ho2 hb2 hb3 HN HF hr1 hq1
    go_wp2_with fail
    have hjr:=HJ.out
    have hqq:=HQ.out
    go_roundg (gk - 1)
    case measure=>omega
    case rel=>exact ⟨j + 1,_,q,by omega,fun h=>by omega,by go_num,by rw [HQ1.out],s2⟩
   ·obtain ⟨b1,o1,rfl,hc1,hl1⟩:=hX.at hj
    replace hc1:=(s.bel.cell (p:=⟨b1,o1 + j,none⟩) hl1).trans hc1
    have hdB:=dX.at hj
    have HD:=hide (tval_take_succ (ds:=X) hj)
    have tx:decide (j < X.length) = true:=decide_eq_true hj
    have HE:=hide (tval_take_ge (ds:=Y) hk)
    have ty:decide (j < Y.length) = false:=decide_eq_false (by omega)
    have HN:=hide (fun (w':World) (v':Value) (q r:Nat)=>AddSt.next (w':=w') (v':=v') s X[j] 0 q r HD.out HE.out)
    clear HD HE
    generalize X[j] = d at hc1 hdB HN
    have hjm:j ≤ mx:=by omega
    obtain ⟨r,hr⟩:∃ r:Nat,r = (cc + d) % 10:=⟨_,rfl⟩
    obtain ⟨q,hq⟩:∃ q:Nat,q = (cc + d) / 10:=⟨_,rfl⟩
    have hr1:((cc:Int) + (d:Int)) % 10 = (r:Int):=by omega
    have hq1:((cc:Int) + (d:Int)) / 10 = (q:Int):=by omega
    have HF:Hid (cc + d + 0 = 10 * q + r ∧ r < 10 ∧ q ≤ 1 ∧ (mx ≤ j → q = 0)):=hide ⟨by omega,by omega,by omega,fun h=>by omega⟩
    clear hr hq
    have ho1:=s.own.alloc (.cells #[.int .i64 (r:Int)] 3)
    have hle1:=s.le
    go_wp2_with (at_builtin; refine wpList_append_int rfl (.tmp 45) (.tmp 48) rfl w.heap.size _ ds rfl ho1 ⟨_,0,none⟩ r rfl ?c1 ?c2 ?c3 ?_)
    case c1=>rw [add_plain]; exact (Blk.new _ _ _).cell 0
    case c2=>omega
    case c3=>simp; omega
    intro v' w2 ho2 hb2
    have hb3:Below w.heap.size wr w2:=((Below.refl _ _).alloc hle1 _).trans hb2
    have s2:=HN.out w2 v' q r HF.out.1 HF.out.2.1 HF.out.2.2.1 ho2 hb3
    have HQ:=hide HF.out.2.2.2
    have HQ1:=hide hq1
    clear s ho1 ho2 hb2 hb3 HN HF hr1 hq1
    go_wp2_with fail
    have hjr:=HJ.out
    have hqq:=HQ.out
    go_roundg (gk - 1)
    case measure=>omega
    case rel=>exact ⟨j + 1,_,q,by omega,fun h=>by omega,by go_num,by rw [HQ1.out],s2⟩
  ·rcases Nat.lt_or_ge j Y.length with hk | hk
   ·have HD:=hide (tval_take_ge (ds:=X) hj)
    have tx:decide (j < X.length) = false:=decide_eq_false (by omega)
    obtain ⟨b2,o2,rfl,hc2,hl2⟩:=hY.at hk
    replace hc2:=(s.bel.cell (p:=⟨b2,o2 + j,none⟩) hl2).trans hc2
    have heB:=dY.at hk
    have HE:=hide (tval_take_succ (ds:=Y) hk)
    have ty:decide (j < Y.length) = true:=decide_eq_true hk
    have HN:=hide (fun (w':World) (v':Value) (q r:Nat)=>AddSt.next (w':=w') (v':=v') s 0 Y[j] q r HD.out HE.out)
    clear HD HE
    generalize Y[j] = e at hc2 heB HN
    have hjm:j ≤ mx:=by omega
    obtain ⟨r,hr⟩:∃ r:Nat,r = (cc + e) % 10:=⟨_,rfl⟩
    obtain ⟨q,hq⟩:∃ q:Nat,q = (cc + e) / 10:=⟨_,rfl⟩
    have hr1:((cc:Int) + (e:Int)) % 10 = (r:Int):=by omega
    have hq1:((cc:Int) + (e:Int)) / 10 = (q:Int):=by omega
    have HF:Hid (cc + 0 + e = 10 * q + r ∧ r < 10 ∧ q ≤ 1 ∧ (mx ≤ j → q = 0)):=hide ⟨by omega,by omega,by omega,fun h=>by omega⟩
    clear hr hq
    have ho1:=s.own.alloc (.cells #[.int .i64 (r:Int)] 3)
    have hle1:=s.le
    go_wp2_with (at_builtin; refine wpList_append_int rfl (.tmp 45) (.tmp 48) rfl w.heap.size _ ds rfl ho1 ⟨_,0,none⟩ r rfl ?c1 ?c2 ?c3 ?_)
    case c1=>rw [add_plain]; exact (Blk.new _ _ _).cell 0
    case c2=>omega
    case c3=>simp; omega
    intro v' w2 ho2 hb2
    have hb3:Below w.heap.size wr w2:=((Below.refl _ _).alloc hle1 _).trans hb2
    have s2:=HN.out w2 v' q r HF.out.1 HF.out.2.1 HF.out.2.2.1 ho2 hb3
    have HQ:=hide HF.out.2.2.2
    have HQ1:=hide hq1
    clear s ho1 ho2 hb2 hb3 HN HF hr1 hq1
    go_wp2_with fail
    have hjr:=HJ.out
    have hqq:=HQ.out
    go_roundg (gk - 1)
    case measure=>omega
    case rel=>exact ⟨j + 1,_,q,by omega,fun h=>by omega,by go_num,by rw [HQ1.out],s2⟩
   ·rcases Nat.eq_zero_or_pos cc with hc0 | hc0
    ·have tc:decide ((0:Int) < (cc:Int)) = false:=decide_eq_false (by omega)
     have tc2:decide (0 < cc) = false:=decide_eq_false (by omega)
     have tx:decide (j < X.length) = false:=decide_eq_false (by omega)
     have ty:decide (j < Y.length) = false:=decide_eq_false (by omega)
     obtain ⟨ra,rc,rfl⟩:=own_slice s.own
     obtain ⟨hD2,hc2⟩:=own_dg s.own
     go_wp2_with fail
     rw [← HP.out]
     have hjr:=HJ.out
     refine ⟨ra,rc,ds,by rw [hlen]; rfl,hc2,hD2,s.digs,?_,?_,s.bel⟩
     ·have:=s.sum
      rw [List.take_of_length_le hj,List.take_of_length_le hk,hc0,Nat.mul_zero] at this
      omega
     ·rw [hlen,← HMX.out]; omega
    ·have HD:=hide (tval_take_ge (ds:=X) hj)
     have tx:decide (j < X.length) = false:=decide_eq_false (by omega)
     have HE:=hide (tval_take_ge (ds:=Y) hk)
     have ty:decide (j < Y.length) = false:=decide_eq_false (by omega)
     have HN:=hide (fun (w':World) (v':Value) (q r:Nat)=>AddSt.next (w':=w') (v':=v') s 0 0 q r HD.out HE.out)
     clear HD HE
     have hjm:j ≤ mx:=by
      rcases Nat.lt_or_ge mx j with h | h
      ·have:=HK.out (by omega); omega
      ·exact h
     have tc:decide ((0:Int) < (cc:Int)) = true:=decide_eq_true (by omega)
     have tc2:decide (0 < cc) = true:=decide_eq_true (by omega)
     obtain ⟨r,hr⟩:∃ r:Nat,r = (cc) % 10:=⟨_,rfl⟩
     obtain ⟨q,hq⟩:∃ q:Nat,q = (cc) / 10:=⟨_,rfl⟩
     have hr1:((cc:Int)) % 10 = (r:Int):=by omega
     have hq1:((cc:Int)) / 10 = (q:Int):=by omega
     have HF:Hid (cc + 0 + 0 = 10 * q + r ∧ r < 10 ∧ q ≤ 1 ∧ (mx ≤ j → q = 0)):=hide ⟨by omega,by omega,by omega,fun h=>by omega⟩
     clear hr hq
     have ho1:=s.own.alloc (.cells #[.int .i64 (r:Int)] 3)
     have hle1:=s.le
     go_wp2_with (at_builtin; refine wpList_append_int rfl (.tmp 45) (.tmp 48) rfl w.heap.size _ ds rfl ho1 ⟨_,0,none⟩ r rfl ?c1 ?c2 ?c3 ?_)
     case c1=>rw [add_plain]; exact (Blk.new _ _ _).cell 0
     case c2=>omega
     case c3=>simp; omega
     intro v' w2 ho2 hb2
     have hb3:Below w.heap.size wr w2:=((Below.refl _ _).alloc hle1 _).trans hb2
     have s2:=HN.out w2 v' q r HF.out.1 HF.out.2.1 HF.out.2.2.1 ho2 hb3
     have HQ:=hide HF.out.2.2.2
     have HQ1:=hide hq1
     clear s ho1 ho2 hb2 hb3 HN HF hr1 hq1
     go_wp2_with fail
     have hjr:=HJ.out
     have hqq:=HQ.out
     go_roundg (gk - 1)
     case measure=>omega
     case rel=>exact ⟨j + 1,_,q,by omega,fun h=>by omega,by go_num,by rw [HQ1.out],s2⟩

structure SubSt (w:World) (base:Nat) (x y:List Nat) (j:Nat) (v:Value) (ds:List Nat) (c:Nat) (wr:World):Prop where
 own:OwnE wr base v ds
 len:ds.length = j
 digs:Digs 10 ds
 sum:val 10 (x.take j) + 10 ^ j * c = val 10 ds + val 10 (y.take j)
 car:c ≤ 1
 bel:Below base w wr
 le:base ≤ wr.heap.size
theorem diff_stepb {b A B V c d e P q r:Nat} (h:A + P * c = V + B) (hq:d + b * q = r + c + e):(A + P * d) + (P * b) * q = (V + P * r) + (B + P * e):=by
 have h1:P * (d + b * q) = P * (r + c + e):=by rw [hq]
 rw [Nat.mul_add,Nat.mul_add,Nat.mul_add,← Nat.mul_assoc] at h1
 omega
theorem SubSt.next {w wr w':World} {base j c:Nat} {x y ds:List Nat} {v v':Value} (s:SubSt w base x y j v ds c wr) (d e q r:Nat) (hd:val 10 (x.take (j + 1)) = val 10 (x.take j) + 10 ^ j * d) (he:val 10 (y.take (j + 1)) = val 10 (y.take j) + 10 ^ j * e) (hq:d + 10 * q = r + c + e) (hr:r < 10) (hq1:q ≤ 1)
  (ho:OwnE w' base v' (ds ++ [r])) (hb:Below base wr w'):SubSt w base x y (j + 1) v' (ds ++ [r]) q w':=by
 refine ⟨ho,by simp [s.len],s.digs.snoc hr,?_,hq1,s.bel.trans hb,Nat.le_trans s.le hb.size⟩
 rw [hd,he,val_snoc,s.len,Nat.pow_succ]
 exact diff_stepb s.sum hq
def CanPost (w:World) (n:Nat) (e:Ending) (w':World):Prop:=
 ∃ a cap,e = .returned (.slice a (dg 10 n).length cap) ∧ Fit a (dg 10 n).length cap ∧ Dg .i64 w' a (dg 10 n) ∧ (∀ ad,a = some ad → w.heap.size ≤ ad.block) ∧ Below w.heap.size w w'

set_option maxRecDepth 100000 in
set_option maxHeartbeats 1600000 in
theorem rsub_any (p q:Option Addr) (cp cq:Nat) (X Y:List Nat) (w:World) (hX:Dg .i64 w p X) (hY:Dg .i64 w q Y) (dX:Digs 10 X) (dY:Digs 10 Y) (hn:X.length ≤ 1099511627776) (hle:Y.length ≤ X.length) (hv:val 10 Y ≤ val 10 X) :
  Calls Try.prog 67 #[.slice p X.length cp,.slice q Y.length cq] w (CanPost w (val 10 X - val 10 Y)):=by
 generalize hP:CanPost w (val 10 X - val 10 Y) = Post
 have HP:=hide hP
 have HV:=hide hv
 clear hP hv
 obtain ⟨W,hW⟩:∃ W,w.alloc (.cells #[] 3) = W:=⟨_,rfl⟩
 have s0:SubSt w w.heap.size X Y 0 (.slice (some ⟨w.heap.size,0,none⟩) 0 0) [] 0 W:=by
  rw [← hW]
  exact ⟨own_empty w,rfl,Digs.nil _,by simp [val],by omega,(Below.refl _ _).alloc (Nat.le_refl _) _,by simp⟩
 go_enter Try.func67,Try.ntmps67
 go_wp2_with fail
 go_loopg [5,6,7] X.length (fun k v c i wr=>∃ (j:Nat) (ds:List Nat) (cc:Nat),j + k = X.length ∧ i = .int .i64 (j:Int) ∧ c = .int .i64 (cc:Int) ∧ SubSt w w.heap.size X Y j v ds cc wr)
 case atStart=>exact ⟨0,[],0,by omega,rfl,rfl,s0⟩
 case round=>
  obtain ⟨j,ds,cc,hjr,rfl,rfl,s⟩:=hrel
  have HJ:=hide hjr
  clear hjr s0 hW
  have hcar:=s.car
  have hlen:=s.len
  rcases Nat.lt_or_ge j X.length with hj | hj
  ·obtain ⟨b1,o1,rfl,hc1,hl1⟩:=hX.at hj
   replace hc1:=(s.bel.cell (p:=⟨b1,o1 + j,none⟩) hl1).trans hc1
   have hdB:=dX.at hj
   have HD:=hide (tval_take_succ (ds:=X) hj)
   have tx:decide (j < X.length) = true:=decide_eq_true hj
   rcases Nat.lt_or_ge j Y.length with hk | hk
   ·obtain ⟨b2,o2,rfl,hc2,hl2⟩:=hY.at hk
    replace hc2:=(s.bel.cell (p:=⟨b2,o2 + j,none⟩) hl2).trans hc2
    have heB:=dY.at hk
    have HE:=hide (tval_take_succ (ds:=Y) hk)
    have ty:decide (j < Y.length) = true:=decide_eq_true hk
    have HN:=hide (fun (w':World) (v':Value) (q r:Nat)=>SubSt.next (w':=w') (v':=v') s X[j] Y[j] q r HD.out HE.out)
    generalize X[j] = d at hc1 hdB HN HD
    generalize Y[j] = e at hc2 heB HN HE
    clear HD HE
    by_cases hneg:(d:Int) - (cc:Int) - (e:Int) < 0
    ·obtain ⟨r,hr⟩:∃ r:Nat,(d:Int) - (cc:Int) - (e:Int) + 10 = (r:Int):=⟨((d:Int) - (cc:Int) - (e:Int) + 10).toNat,by omega⟩
     have HF:Hid (d + 10 * 1 = r + cc + e ∧ r < 10 ∧ 1 ≤ 1):=hide (by omega)
     have hr9:r < 10:=by omega
     have ho1:=s.own.alloc (.cells #[.int .i64 (r:Int)] 3)
     have hle1:=s.le
     go_wp2_with (at_builtin; refine wpList_append_int rfl (.tmp 36) (.tmp 38) rfl w.heap.size _ ds rfl ho1 ⟨_,0,none⟩ r rfl ?c1 ?c2 ?c3 ?_)
     case c1=>rw [add_plain]; exact (Blk.new _ _ _).cell 0
     case c2=>omega
     case c3=>simp; omega
     intro v' w2 ho2 hb2
     have hb3:Below w.heap.size wr w2:=((Below.refl _ _).alloc hle1 _).trans hb2
     have s2:=HN.out w2 v' 1 r HF.out.1 HF.out.2.1 HF.out.2.2 ho2 hb3
     clear s ho1 ho2 hb2 hb3 HN HF hr
     go_wp2_with fail
     have hjr:=HJ.out
     go_roundg (gk - 1)
     case measure=>omega
     case rel=>exact ⟨j + 1,_,1,by omega,by go_num,rfl,s2⟩
    ·obtain ⟨r,hr⟩:∃ r:Nat,(d:Int) - (cc:Int) - (e:Int) = (r:Int):=⟨((d:Int) - (cc:Int) - (e:Int)).toNat,by omega⟩
     clear hneg
     have HF:Hid (d + 10 * 0 = r + cc + e ∧ r < 10 ∧ 0 ≤ 1):=hide (by omega)
     have hr9:r < 10:=by omega
     have ho1:=s.own.alloc (.cells #[.int .i64 (r:Int)] 3)
     have hle1:=s.le
     go_wp2_with (at_builtin; refine wpList_append_int rfl (.tmp 36) (.tmp 38) rfl w.heap.size _ ds rfl ho1 ⟨_,0,none⟩ r rfl ?c1 ?c2 ?c3 ?_)
     case c1=>rw [add_plain]; exact (Blk.new _ _ _).cell 0
     case c2=>omega
     case c3=>simp; omega
     intro v' w2 ho2 hb2
     have hb3:Below w.heap.size wr w2:=((Below.refl _ _).alloc hle1 _).trans hb2
     have s2:=HN.out w2 v' 0 r HF.out.1 HF.out.2.1 HF.out.2.2 ho2 hb3
     clear s ho1 ho2 hb2 hb3 HN HF hr
     go_wp2_with fail
     have hjr:=HJ.out
     go_roundg (gk - 1)
     case measure=>omega
     case rel=>exact ⟨j + 1,_,0,by omega,by go_num,rfl,s2⟩
   ·have HE:=hide (tval_take_ge (ds:=Y) hk)
    have ty:decide (j < Y.length) = false:=decide_eq_false (by omega)
    have HN:=hide (fun (w':World) (v':Value) (q r:Nat)=>SubSt.next (w':=w') (v':=v') s X[j] 0 q r HD.out HE.out)
    generalize X[j] = d at hc1 hdB HN HD
    clear HD HE
    by_cases hneg:(d:Int) - (cc:Int) < 0
    ·obtain ⟨r,hr⟩:∃ r:Nat,(d:Int) - (cc:Int) + 10 = (r:Int):=⟨((d:Int) - (cc:Int) + 10).toNat,by omega⟩
     have HF:Hid (d + 10 * 1 = r + cc + 0 ∧ r < 10 ∧ 1 ≤ 1):=hide (by omega)
     have hr9:r < 10:=by omega
     have ho1:=s.own.alloc (.cells #[.int .i64 (r:Int)] 3)
     have hle1:=s.le
     go_wp2_with (at_builtin; refine wpList_append_int rfl (.tmp 36) (.tmp 38) rfl w.heap.size _ ds rfl ho1 ⟨_,0,none⟩ r rfl ?c1 ?c2 ?c3 ?_)
     case c1=>rw [add_plain]; exact (Blk.new _ _ _).cell 0
     case c2=>omega
     case c3=>simp; omega
     intro v' w2 ho2 hb2
     have hb3:Below w.heap.size wr w2:=((Below.refl _ _).alloc hle1 _).trans hb2
     have s2:=HN.out w2 v' 1 r HF.out.1 HF.out.2.1 HF.out.2.2 ho2 hb3
     clear s ho1 ho2 hb2 hb3 HN HF hr
     go_wp2_with fail
     have hjr:=HJ.out
     go_roundg (gk - 1)
     case measure=>omega
     case rel=>exact ⟨j + 1,_,1,by omega,by go_num,rfl,s2⟩
    ·obtain ⟨r,hr⟩:∃ r:Nat,(d:Int) - (cc:Int) = (r:Int):=⟨((d:Int) - (cc:Int)).toNat,by omega⟩
     clear hneg
     have HF:Hid (d + 10 * 0 = r + cc + 0 ∧ r < 10 ∧ 0 ≤ 1):=hide (by omega)
     have hr9:r < 10:=by omega
     have ho1:=s.own.alloc (.cells #[.int .i64 (r:Int)] 3)
     have hle1:=s.le
     go_wp2_with (at_builtin; refine wpList_append_int rfl (.tmp 36) (.tmp 38) rfl w.heap.size _ ds rfl ho1 ⟨_,0,none⟩ r rfl ?c1 ?c2 ?c3 ?_)
     case c1=>rw [add_plain]; exact (Blk.new _ _ _).cell 0
     case c2=>omega
     case c3=>simp; omega
     intro v' w2 ho2 hb2
     have hb3:Below w.heap.size wr w2:=((Below.refl _ _).alloc hle1 _).trans hb2
     have s2:=HN.out w2 v' 0 r HF.out.1 HF.out.2.1 HF.out.2.2 ho2 hb3
     clear s ho1 ho2 hb2 hb3 HN HF hr
     go_wp2_with fail
     have hjr:=HJ.out
     go_roundg (gk - 1)
     case measure=>omega
     case rel=>exact ⟨j + 1,_,0,by omega,by go_num,rfl,s2⟩
  ·have tx:decide (j < X.length) = false:=decide_eq_false (by omega)
   obtain ⟨ra,rc,rfl⟩:=own_slice s.own
   obtain ⟨hD2,hc2⟩:=own_dg s.own
   have hfr:=own_fresh s.own
   have hdl:ds.length ≤ 2199023255552:=by have:=HJ.out; omega
   have hval:val 10 ds = val 10 X - val 10 Y:=by
    have h1:=s.sum
    have h2:=val_lt s.digs
    rw [List.take_of_length_le hj,List.take_of_length_le (by omega)] at h1
    rw [hlen] at h2
    have h3:=HV.out
    rcases Nat.eq_zero_or_pos cc with h0 | h0
    ·rw [h0] at h1; omega
    ·obtain rfl:cc = 1:=by omega
     omega
   have HT:Hid (trim ds = dg 10 (val 10 X - val 10 Y)):=hide (by rw [trim_dg T2 s.digs,hval])
   have hb2:=s.bel
   clear hval s
   subst hlen
   go_wp2_with fail
   refine (rcut_any ra rc ds wr hD2 hc2 hdl).mono ?_
   rintro e w2 ⟨rfl,rfl⟩
   go_wp2_with fail
   rw [← HP.out,HT.out]
   have h1:=hD2.trim
   have h2:=hc2.trim
   rw [HT.out] at h1 h2
   exact ⟨ra,rc,rfl,h2,h1,hfr,hb2⟩

theorem Dg.storeT {t:TypeId} {k:IntKind} {w:World} {a:Option Addr} {ds:List Nat} {g l m:Nat} {n:Bool} {b:Option Addr} (h:Dg k w a ds) (hB:Blk w g t #[.bool n,.slice b l m]) (x y:Value):Dg k ((w.setCell ⟨g,0,none⟩ x).setCell ⟨g,1,none⟩ y) a ds:=by
 intro hn
 obtain ⟨p,off,e,hc⟩:=h hn
 refine ⟨p,off,e,fun i hi=>?_⟩
 have h0:(⟨g,0,none⟩:Addr) ≠ ⟨p,off + i,none⟩:=fun e=>by
  have:=hc i hi
  rw [← e,hB.cell 0] at this
  cases this
 have h1:(⟨g,1,none⟩:Addr) ≠ ⟨p,off + i,none⟩:=fun e=>by
  have:=hc i hi
  rw [← e,hB.cell 1] at this
  cases this
 rw [World.cell?_setCell_other _ _ _ _ h1,World.cell?_setCell_other _ _ _ _ h0]
 exact hc i hi
theorem NumV.store {t:TypeId} {w:World} {v:Value} {z:Int} {g l m:Nat} {n:Bool} {b:Option Addr} (h:NumV w v z) (hB:Blk w g t #[.bool n,.slice b l m]) (x y:Value):NumV ((w.setCell ⟨g,0,none⟩ x).setCell ⟨g,1,none⟩ y) v z:=by
 obtain ⟨a,cap,e,hc,hd⟩:=h
 exact ⟨a,cap,e,hc,hd.storeT hB x y⟩
theorem BB_pow (i:Nat):BB ^ i = 10 ^ (9 * i):=by rw [show BB = 10 ^ 9 from rfl,← Nat.pow_mul]
structure ROfSt (w:World) (base:Nat) (X:List Nat) (i k:Nat) (v:Value) (ds:List Nat) (n:Nat) (wr:World):Prop where
 own:OwnE wr base v ds
 len:ds.length = 9 * i + k
 digs:Digs 10 ds
 sum:val 10 ds + 10 ^ (9 * i + k) * n = val BB (X.take (i + 1))
 nb:n < 10 ^ (9 - k)
 bel:Below base w wr
 le:base ≤ wr.heap.size
theorem ROfSt.next {w wr w':World} {base i k n:Nat} {X ds:List Nat} {v v':Value} (s:ROfSt w base X i k v ds n wr) (hk:k < 9) (q r:Nat) (hq:n = 10 * q + r) (hr:r < 10)
  (ho:OwnE w' base v' (ds ++ [r])) (hb:Below base wr w'):ROfSt w base X i (k + 1) v' (ds ++ [r]) q w':=by
 refine ⟨ho,by simp [s.len]; omega,s.digs.snoc hr,?_,?_,s.bel.trans hb,Nat.le_trans s.le hb.size⟩
 ·rw [← s.sum,val_snoc,s.len,hq,← Nat.add_assoc,Nat.pow_succ,Nat.mul_add,Nat.mul_assoc]
  omega
 ·have h:=s.nb
  rw [show 9 - k = (9 - (k + 1)) + 1 by omega,Nat.pow_succ] at h
  omega
structure ROfOut (w:World) (base:Nat) (X:List Nat) (i:Nat) (v:Value) (ds:List Nat) (wr:World):Prop where
 own:OwnE wr base v ds
 len:ds.length = 9 * i
 digs:Digs 10 ds
 sum:val 10 ds = val BB (X.take i)
 bel:Below base w wr
 le:base ≤ wr.heap.size
theorem ROfOut.inn {w wr:World} {base i:Nat} {X ds:List Nat} {v:Value} (s:ROfOut w base X i v ds wr) (hi:i < X.length) (hX:Digs BB X):ROfSt w base X i 0 v ds X[i] wr:=
 ⟨s.own,s.len,s.digs,by rw [val_take_succ hi,s.sum,BB_pow]; rfl,hX.at hi,s.bel,s.le⟩
theorem ROfSt.out {w wr:World} {base i n:Nat} {X ds:List Nat} {v:Value} (s:ROfSt w base X i 9 v ds n wr):ROfOut w base X (i + 1) v ds wr:=by
 have h0:n = 0:=by have:=s.nb; simpa using this
 exact ⟨s.own,by rw [s.len]; omega,s.digs,by rw [← s.sum,h0]; rfl,s.bel,s.le⟩

set_option maxRecDepth 100000 in
set_option maxHeartbeats 1600000 in
theorem ROf_any {x:Int} {v:Value} (w:World) (hx:IntV w v x) (hn:len x ≤ 1000000000) :
  Calls Try.prog 14 #[v] w (NumPost w x):=by
 generalize hP:NumPost w x = Post
 have HP:=hide hP
 clear hP
 obtain ⟨a,cap,rfl,hf,hd⟩:=hx
 have hX:=(dg_canon BB2 x.natAbs).1
 have HX:Hid (val BB (dg BB x.natAbs) = x.natAbs):=hide (dg_val BB2 _)
 have HN:Hid (signZ (decide (x < 0)) x.natAbs = x):=hide (by
  unfold signZ
  by_cases h:x < 0
  ·rw [decide_eq_true h,if_pos rfl]; omega
  ·rw [decide_eq_false h,if_neg (by decide)]; omega)
 unfold len at hn
 generalize dg BB x.natAbs = X at *
 generalize decide (x < 0) = neg at *
 obtain ⟨W,hW⟩:∃ W,((w.alloc (.cells #[.bool neg,.slice a X.length cap] 38)).alloc (.cells #[.bool false,.slice none 0 0] 41)).alloc (.cells #[] 3) = W:=⟨_,rfl⟩
 have hsz:W.heap.size = w.heap.size + 3:=by rw [← hW]; simp
 have hZ:Blk W w.heap.size 38 #[.bool neg,.slice a X.length cap]:=by rw [← hW]; exact ((Blk.new w _ _).alloc _).alloc _
 have hR:Blk W (w.heap.size + 1) 41 #[.bool false,.slice none 0 0]:=by rw [← hW]; exact (Blk.new_at _ _ _ (by simp)).alloc _
 have hB:Below w.heap.size w W:=by rw [← hW]; exact (((Below.refl _ _).alloc (Nat.le_refl _) _).alloc (by simp) _).alloc (by simp; omega) _
 have s0:ROfOut W (w.heap.size + 2) X 0 (.slice (some ⟨w.heap.size + 2,0,none⟩) 0 0) [] W:=by
  refine ⟨?_,rfl,Digs.nil _,by simp [val],Below.refl _ _,by omega⟩
  rw [← hW]
  have h:=own_empty ((w.alloc (.cells #[.bool neg,.slice a X.length cap] 38)).alloc (.cells #[.bool false,.slice none 0 0] 41))
  simpa using h
 have hd0:=hd.below hB (Nat.le_refl _)
 have HSZ:=hide hsz
 clear hsz
 go_enter Try.func14,Try.ntmps14
 go_wp2_with fail
 clear hW
 go_loopg [3,4,5,6] X.length (fun r v i _n _k wr=>∃ (j:Nat) (ds:List Nat),j + r = X.length ∧ i = .int .i64 (j:Int) ∧ ROfOut W (w.heap.size + 2) X j v ds wr)
 case atStart=>exact ⟨0,[],by omega,rfl,s0⟩
 case round=>
  obtain ⟨j,ds,hjr,rfl,s⟩:=hrel
  clear s0
  have hlen:=s.len
  obtain ⟨z0,z1,-⟩:=(hZ.below s.bel (by omega)).c2
  rcases Nat.lt_or_ge j X.length with hj | hj
  ·obtain ⟨b1,o1,rfl,hc1,hl1⟩:=hd0.at hj
   have hl2:b1 < w.heap.size:=by
    have:=World.block_lt_of_cell? w _ (by obtain ⟨b,o,e,hc⟩:=hd (by omega); simp at e; obtain ⟨rfl,rfl⟩:=e; exact hc j hj)
    exact this
   replace hc1:=(s.bel.cell (p:=⟨b1,o1 + j,none⟩) (by show b1 < _; omega)).trans hc1
   have st:=s.inn hj hX
   clear s
   generalize X[j] = d at hc1 st
   have hd9:d < 1000000000:=st.nb
   have HJ:=hide hjr
   clear hjr
   obtain ⟨G,hG⟩:∃ G,G = gk:=⟨_,rfl⟩
   subst hG
   go_wp2_with fail
   go_loopg [3,5,6] 9 (fun r v n k wi=>∃ (ds:List Nat) (nn:Nat),r ≤ 9 ∧ k = .int .i64 ((9 - r:Nat):Int) ∧ n = .int .i64 (nn:Int) ∧ ROfSt W (w.heap.size + 2) X j (9 - r) v ds nn wi)
   case atStart=>exact ⟨ds,d,Nat.le_refl _,rfl,rfl,st⟩
   case round=>
    obtain ⟨es,n,hr9,rfl,rfl,t⟩:=hrel
    clear st
    obtain ⟨k,hk⟩:∃ k,k = 9 - gk:=⟨_,rfl⟩
    rw [← hk] at t ⊢
    have hk9:k ≤ 9:=by omega
    have HKK:=hide hk
    have hgk:gk = 9 - k:=by omega
    clear hk
    rcases Nat.lt_or_ge k 9 with h9 | h9
    ·have hnb:n < 1000000000:=Nat.lt_of_lt_of_le t.nb (show 10 ^ (9 - k) ≤ 10 ^ 9 from Nat.pow_le_pow_right (by decide) (by omega))
     have hel:=t.len
     obtain ⟨r,hr⟩:∃ r:Nat,r = n % 10:=⟨_,rfl⟩
     obtain ⟨q,hq⟩:∃ q:Nat,q = n / 10:=⟨_,rfl⟩
     have hr1:(n:Int) % 10 = (r:Int):=by omega
     have HQ1:Hid ((n:Int) / 10 = (q:Int)):=hide (by omega)
     have HF:Hid (n = 10 * q + r ∧ r < 10):=hide (by omega)
     clear hr hq
     have ho1:=t.own.alloc (.cells #[.int .i64 (r:Int)] 3)
     have hle1:=t.le
     have HG:=hide hgk
     clear hgk
     go_wp2_with (at_builtin; refine wpList_append_int rfl (.tmp 25) (.tmp 28) rfl (w.heap.size + 2) _ es rfl ho1 ⟨_,0,none⟩ r rfl ?c1 ?c2 ?c3 ?_)
     case c1=>rw [add_plain]; exact (Blk.new _ _ _).cell 0
     case c2=>omega
     case c3=>simp; omega
     intro v' w2 ho2 hb2
     have hb3:Below (w.heap.size + 2) wr w2:=((Below.refl _ _).alloc hle1 _).trans hb2
     have t2:=t.next h9 q r HF.out.1 HF.out.2 ho2 hb3
     clear t ho1 ho2 hb2 hb3 HF hr1
     go_wp2_with fail
     have hgk:=HG.out
     go_roundg (gk - 1)
     case measure=>omega
     case rel=>
      rw [show 9 - (gk - 1) = k + 1 by omega]
      exact ⟨_,q,by omega,by go_num,by rw [HQ1.out],t2⟩
    ·obtain rfl:k = 9:=by omega
     have s2:=t.out
     clear t
     go_wp2_with fail
     have hjr:=HJ.out
     go_roundg (G - 1)
     case measure=>omega
     case rel=>exact ⟨j + 1,es,by omega,by go_num,s2⟩
  ·obtain rfl:j = X.length:=by omega
   obtain ⟨ra,rc,rfl⟩:=own_slice s.own
   obtain ⟨hD2,hc2⟩:=own_dg s.own
   have hval:signZ neg (val 10 ds) = x:=by
    have h:=s.sum
    rw [List.take_length,HX.out] at h
    rw [h]; exact HN.out
   have HV:=hide hval
   have hB2:Below w.heap.size w wr:=hB.trans (s.bel.mono (by omega))
   have hR2:=hR.below s.bel (by omega)
   have hdg:=s.digs
   have hdl:ds.length ≤ 2199023255552:=by omega
   clear hval s hlen
   go_wp2_with fail
   refine (make1_any neg ra rc ds wr hD2 hdg hc2 hdl).mono ?_
   rintro e w3 ⟨r3,rfl,h3,hb3⟩
   rw [HV.out] at h3
   obtain ⟨rn,rr,rl,rk,rfl⟩:=h3.parts
   have hR3:=hR2.below hb3 hR2.lt
   have hB3:Below w.heap.size w w3:=hB2.trans (hb3.mono hB2.size)
   obtain ⟨k0,k1,kf⟩:=hR3.c2
   have kf0:=kf 0
   have kf1:=kf 1
   obtain ⟨e0,e1,-⟩:=(hR3.two (.bool rn) (.slice rr rl rk)).c2
   have hI:=h3.store hR3 (.bool rn) (.slice rr rl rk)
   go_wp2_with fail
   refine bodyPost_ret (v:=.agg #[.bool rn,.slice rr rl rk]) (by simp [results,Try.results14,go_sem,e0,e1]) rfl ?_
   rw [← HP.out]
   exact ⟨_,rfl,hI,(hB3.setCell (by simp) _).setCell (by simp) _⟩

def isB (v:Value):Prop:=∃ n,v = .bool n
def isS (v:Value):Prop:=∃ a l k,v = .slice a l k
theorem isB_of (n:Bool):isB (.bool n):=⟨_,rfl⟩
theorem isS_of (a:Option Addr) (l k:Nat):isS (.slice a l k):=⟨_,_,_,rfl⟩
structure Kp (w:World) (t:TypeId) (g:Nat) (c:World):Prop where
 bel:Below w.heap.size w c
 le:w.heap.size ≤ g
 blk:∃ (n:Bool) (a:Option Addr) (l k:Nat),Blk c g t #[.bool n,.slice a l k]
section
variable {w c w1:World} {t:TypeId} {g:Nat}
theorem Kp.below (h:Kp w t g c) (hb:Below c.heap.size c w1):Kp w t g w1:=by
 obtain ⟨h1,h2,n,a,l,k,h3⟩:=h
 exact ⟨h1.trans (hb.mono h1.size),h2,n,a,l,k,h3.below hb h3.lt⟩
theorem Kp.drew (h:Kp w t g c):Kp w t g c.drew:=⟨h.1.drew,h.2,h.3⟩
theorem Kp.drewN (h:Kp w t g c) (n:Nat):Kp w t g (c.drewN n):=⟨below_drewN h.1 n,h.2,h.3⟩
theorem Kp.put {p q:Value} (hp:isB p) (hq:isS q) (h:Kp w t g c):Kp w t g ((c.setCell ⟨g,0,none⟩ p).setCell ⟨g,1,none⟩ q):=by
 obtain ⟨h1,h2,n,a,l,k,h3⟩:=h
 obtain ⟨n',rfl⟩:=hp
 obtain ⟨a',l',k',rfl⟩:=hq
 exact ⟨(h1.setCell h2 _).setCell h2 _,h2,n',a',l',k',h3.two _ _⟩
theorem Kp.at (h:Kp w t g c) (hb:Below c.heap.size c w1):∃ (n:Bool) (a:Option Addr) (l k:Nat),w1.cell? ⟨g,0,none⟩ = some (.bool n) ∧ w1.cell? ⟨g,1,none⟩ = some (.slice a l k) ∧ w1.frozen? ⟨g,0,none⟩ = false ∧ w1.frozen? ⟨g,1,none⟩ = false ∧ Blk w1 g t #[.bool n,.slice a l k]:=by
 obtain ⟨h1,h2,n,a,l,m,k⟩:=h
 have k':=k.below hb k.lt
 obtain ⟨c0,c1,hf⟩:=k'.c2
 exact ⟨n,a,l,m,c0,c1,hf 0,hf 1,k'⟩
theorem cellK {a:Addr} {v:Value} (hb:Below c.heap.size c w1) (h:c.cell? a = some v):w1.cell? a = some v:=(hb.cell (World.block_lt_of_cell? c _ h)).trans h
theorem cellF {a:Addr} {p q v:Value} (hne:a.block ≠ g) (h:c.cell? a = some v):((c.setCell ⟨g,0,none⟩ p).setCell ⟨g,1,none⟩ q).cell? a = some v:=by
 rw [World.cell?_setCell_other _ _ _ _ (fun e=>hne (congrArg Addr.block e.symm)),World.cell?_setCell_other _ _ _ _ (fun e=>hne (congrArg Addr.block e.symm))]
 exact h
end
theorem keepK2 {w c w1:World} {t:TypeId} {g:Nat} {g0 o0 g1 o1:Nat} {v0 v1:Value} (h:c.cell? ⟨g0,o0,none⟩ = some v0 ∧ c.cell? ⟨g1,o1,none⟩ = some v1 ∧ Kp w t g c) (hb:Below c.heap.size c w1):w1.cell? ⟨g0,o0,none⟩ = some v0 ∧ w1.cell? ⟨g1,o1,none⟩ = some v1 ∧ Kp w t g w1:=by
 obtain ⟨h0,h1,hk⟩:=h
 exact ⟨cellK hb h0,cellK hb h1,hk.below hb⟩
theorem keepP2 {w c:World} {t:TypeId} {g:Nat} {g0 o0 g1 o1:Nat} {v0 v1:Value} (d0:g0 ≠ g) (d1:g1 ≠ g) (p q:Value) (hp:isB p) (hq:isS q) (h:c.cell? ⟨g0,o0,none⟩ = some v0 ∧ c.cell? ⟨g1,o1,none⟩ = some v1 ∧ Kp w t g c):((c.setCell ⟨g,0,none⟩ p).setCell ⟨g,1,none⟩ q).cell? ⟨g0,o0,none⟩ = some v0 ∧ ((c.setCell ⟨g,0,none⟩ p).setCell ⟨g,1,none⟩ q).cell? ⟨g1,o1,none⟩ = some v1 ∧ Kp w t g ((c.setCell ⟨g,0,none⟩ p).setCell ⟨g,1,none⟩ q):=by
 obtain ⟨h0,h1,hk⟩:=h
 exact ⟨cellF (a:=⟨g0,o0,none⟩) d0 h0,cellF (a:=⟨g1,o1,none⟩) d1 h1,hk.put hp hq⟩
theorem keepK4 {w c w1:World} {t:TypeId} {g:Nat} {g0 o0 g1 o1 g2 o2 g3 o3:Nat} {v0 v1 v2 v3:Value} (h:c.cell? ⟨g0,o0,none⟩ = some v0 ∧ c.cell? ⟨g1,o1,none⟩ = some v1 ∧ c.cell? ⟨g2,o2,none⟩ = some v2 ∧ c.cell? ⟨g3,o3,none⟩ = some v3 ∧ Kp w t g c) (hb:Below c.heap.size c w1):w1.cell? ⟨g0,o0,none⟩ = some v0 ∧ w1.cell? ⟨g1,o1,none⟩ = some v1 ∧ w1.cell? ⟨g2,o2,none⟩ = some v2 ∧ w1.cell? ⟨g3,o3,none⟩ = some v3 ∧ Kp w t g w1:=by
 obtain ⟨h0,h1,h2,h3,hk⟩:=h
 exact ⟨cellK hb h0,cellK hb h1,cellK hb h2,cellK hb h3,hk.below hb⟩
theorem keepP4 {w c:World} {t:TypeId} {g:Nat} {g0 o0 g1 o1 g2 o2 g3 o3:Nat} {v0 v1 v2 v3:Value} (d0:g0 ≠ g) (d1:g1 ≠ g) (d2:g2 ≠ g) (d3:g3 ≠ g) (p q:Value) (hp:isB p) (hq:isS q) (h:c.cell? ⟨g0,o0,none⟩ = some v0 ∧ c.cell? ⟨g1,o1,none⟩ = some v1 ∧ c.cell? ⟨g2,o2,none⟩ = some v2 ∧ c.cell? ⟨g3,o3,none⟩ = some v3 ∧ Kp w t g c):((c.setCell ⟨g,0,none⟩ p).setCell ⟨g,1,none⟩ q).cell? ⟨g0,o0,none⟩ = some v0 ∧ ((c.setCell ⟨g,0,none⟩ p).setCell ⟨g,1,none⟩ q).cell? ⟨g1,o1,none⟩ = some v1 ∧ ((c.setCell ⟨g,0,none⟩ p).setCell ⟨g,1,none⟩ q).cell? ⟨g2,o2,none⟩ = some v2 ∧ ((c.setCell ⟨g,0,none⟩ p).setCell ⟨g,1,none⟩ q).cell? ⟨g3,o3,none⟩ = some v3 ∧ Kp w t g ((c.setCell ⟨g,0,none⟩ p).setCell ⟨g,1,none⟩ q):=by
 obtain ⟨h0,h1,h2,h3,hk⟩:=h
 exact ⟨cellF (a:=⟨g0,o0,none⟩) d0 h0,cellF (a:=⟨g1,o1,none⟩) d1 h1,cellF (a:=⟨g2,o2,none⟩) d2 h2,cellF (a:=⟨g3,o3,none⟩) d3 h3,hk.put hp hq⟩

theorem val_nine (X:List Nat) (i:Nat) (hi:i ≤ X.length):val 10 (X.take (i + 9)) = val 10 (X.take i) + 10 ^ i * val 10 ((X.drop i).take 9):=by
 rw [List.take_add,val_append,List.length_take,Nat.min_eq_left hi]
theorem canon_big {b:Nat} {X:List Nat} (h:Canon b X) (hne:X ≠ []):b ^ (X.length - 1) ≤ val b X:=by
 rcases snoc_cases X with rfl | ⟨r,d,rfl⟩
 ·exact absurd rfl hne
 ·have hd:d ≠ 0:=fun e=>h.2 (by simp [e])
  rw [val_snoc,List.length_append,List.length_singleton,Nat.add_sub_cancel]
  have:b ^ r.length * 1 ≤ b ^ r.length * d:=Nat.mul_le_mul_left _ (by omega)
  omega
theorem canon_of_big {b:Nat} {X:List Nat} (h:Digs b X) (hb:X ≠ [] → b ^ (X.length - 1) ≤ val b X):Canon b X:=by
 refine ⟨h,fun e=>?_⟩
 rcases snoc_cases X with rfl | ⟨r,d,rfl⟩
 ·simp at e
 ·obtain rfl:d = 0:=by simpa using e
  have h1:=hb (by simp)
  rw [val_snoc,List.length_append,List.length_singleton,Nat.add_sub_cancel,Nat.mul_zero] at h1
  have h2:=val_lt (ds:=r) (b:=b) (fun x hx=>h x (by simp [hx]))
  omega
theorem OwnD.set_low {w:World} {base g i:Nat} {v:Value} {ds:List Nat} (h:OwnD w base v ds) (hg:g < base) (u:Value):OwnD (w.setCell ⟨g,i,none⟩ u) base v ds:=by
 refine h.kept (row:=some g) (only_setCell (only_refl _ _) (.inl rfl) u) ?_
 right
 intro e
 have:=(World.ownsRow.lt h g e).1
 omega

structure FoSt (w:World) (B:Nat) (neg:Bool) (X:List Nat) (I:Nat) (va:Option Addr) (vc:Nat) (ds:List Nat) (wr:World):Prop where
 own:OwnD wr (B + 3) (.slice va ds.length vc) ds
 blk:Blk wr (B + 1 + 1) 38 #[.bool neg,.slice va ds.length vc]
 len:I = 9 * ds.length
 lim:I < X.length + 9
 digs:Digs BB ds
 sum:val BB ds = val 10 (X.take I)
 bel:Below (B + 1 + 1) w wr
 le:B + 3 ≤ wr.heap.size
theorem FoSt.next {w wr w2 w':World} {B I n vc vc':Nat} {neg:Bool} {X ds:List Nat} {va va':Option Addr} (s:FoSt w B neg X I va vc ds wr) (hI:I < X.length) (hn:n = val 10 ((X.drop I).take 9)) (hX:Digs 10 X) (ho:OwnD w2 (B + 3) (.slice va' (ds ++ [n]).length vc') (ds ++ [n])) (hb:Below (B + 3) wr w2) (hw:w2.setCell ⟨B + 1 + 1,1,none⟩ (.slice va' (ds.length + 1) vc') = w') :
  FoSt w B neg X (I + 9) va' vc' (ds ++ [n]) w':=by
 subst hw
 have hlt:n < BB:=by
  rw [hn]
  have h:=val_lt ((hX.drop I).take 9)
  exact Nat.lt_of_lt_of_le h (show 10 ^ _ ≤ 10 ^ 9 from Nat.pow_le_pow_right (by decide) (by simp; omega))
 have hl:(ds ++ [n]).length = ds.length + 1:=by simp
 refine ⟨ho.set_low (by omega) _,?_,by rw [hl,s.len]; omega,by omega,s.digs.snoc hlt,?_,(s.bel.trans (hb.mono (by omega))).setCell (Nat.le_refl _) _,?_⟩
 ·rw [hl]
  have h:=(s.blk.below hb (by omega)).set_ 1 (.slice va' (ds.length + 1) vc')
  simpa using h
 ·rw [val_snoc,s.sum,val_nine X I (by omega),BB_pow,← s.len,hn]
 ·rw [World.size_setCell]; exact Nat.le_trans s.le hb.size
theorem FoSt.done {w wr:World} {B I vc:Nat} {neg:Bool} {X ds:List Nat} {va:Option Addr} {z:Int} (s:FoSt w B neg X I va vc ds wr) (hI:X.length ≤ I) (hX:X = dg 10 z.natAbs) (hneg:neg = decide (z < 0)):IntV wr (.agg #[.bool neg,.slice va ds.length vc]) z:=by
 have hv:val BB ds = z.natAbs:=by rw [s.sum,List.take_of_length_le hI,hX,dg_val T2]
 have hc:Canon BB ds:=by
  refine canon_of_big s.digs fun hne=>?_
  have h1:=s.len
  have h2:=s.lim
  have h0:0 < ds.length:=List.length_pos_iff.2 hne
  have h3:=canon_big (dg_canon T2 z.natAbs) (by rw [← hX]; intro e; rw [e] at h2; simp at h2; omega)
  rw [dg_val T2,← hX] at h3
  rw [hv,BB_pow]
  exact Nat.le_trans (Nat.pow_le_pow_right (by decide) (by omega)) h3
 obtain ⟨hd,hf⟩:=own_dg s.own
 have e:=dg_of BB2 hc hv
 subst hneg
 exact ⟨va,vc,by rw [e],by rw [e]; exact hf,by rw [e]; exact hd⟩


theorem sign_val (x:Int):signZ (decide (x < 0)) x.natAbs = x:=by
 unfold signZ
 by_cases h:x < 0
 ·rw [decide_eq_true h,if_pos rfl]; omega
 ·rw [decide_eq_false h,if_neg (by decide)]; omega
def Dm (z:Int):Prop:=dlen z ≤ 100000000000

set_option maxHeartbeats 800000 in
theorem RInt_any (m:Int) (w:World) (h1:-9223372036854775807 ≤ m) (h2:m ≤ 9223372036854775807) :
  Calls Try.prog 37 #[.int .i64 m] w (NumPost w m):=by
 generalize hP:NumPost w m = Post
 have HP:=hide hP
 clear hP
 have hR:=Blk.new w 41 #[.bool false,.slice none 0 0]
 have hB:Below w.heap.size w (w.alloc (.cells #[.bool false,.slice none 0 0] 41)):=(Below.refl _ _).alloc (Nat.le_refl _) _
 obtain ⟨W,hW⟩:∃ W,w.alloc (.cells #[.bool false,.slice none 0 0] 41) = W:=⟨_,rfl⟩
 have hsz:W.heap.size = w.heap.size + 1:=by rw [← hW]; simp
 rw [hW] at hR hB
 have HSZ:=hide hsz
 have HW:=hide hW
 clear hsz hW
 go_enter Try.func37,Try.ntmps37
 go_upto_if 7 with (fail)
 rw [HW.out]
 clear HW
 generalize hneg:decide (m < 0) = neg
 have HNEG:=hide hneg
 go_cut [0] from 8 to 9 (fun v0 wc=>W = wc ∧ v0 = .int .i64 (m.natAbs:Int))
 case first=>
  cases neg with
  | true=>
   have hm:m < 0:=by simpa using hneg
   clear hneg
   go_wp2_with fail
   go_meet
   exact ⟨rfl,by congr 1; omega⟩
  | false=>
   have hm:¬ m < 0:=by simpa using hneg
   clear hneg
   go_wp2_with fail
   go_meet
   exact ⟨rfl,by congr 1; omega⟩
 case rest=>
  obtain ⟨rfl,rfl⟩:=hcut
  clear hneg
  have HV:Hid (signZ neg m.natAbs = m):=hide (by rw [← HNEG.out]; exact sign_val m)
  have hN:m.natAbs < 10 ^ 19:=by
   have:(10:Nat) ^ 19 = 10000000000000000000:=rfl
   omega
  have hN2:m.natAbs ≤ 9223372036854775807:=by omega
  clear h1 h2 HNEG
  generalize m.natAbs = N at *
  obtain ⟨W2,hW2⟩:∃ W2,W.alloc (.cells #[] 3) = W2:=⟨_,rfl⟩
  have hb2:Below W.heap.size W W2:=by rw [← hW2]; exact (Below.refl _ _).alloc (Nat.le_refl _) _
  have ho2:OwnE W2 W.heap.size (.slice (some ⟨W.heap.size,0,none⟩) 0 0) []:=by rw [← hW2]; exact own_empty W
  have hs2:W.heap.size ≤ W2.heap.size:=hb2.size
  have HW2:=hide hW2
  clear hW2
  go_upto_region 5 with (fail)
  rw [HW2.out]
  clear HW2
  go_loopg [0,4] (N + 1) (fun k n v wr=>∃ (nn:Nat) (ds:List Nat),k = nn + 1 ∧ n = .int .i64 (nn:Int) ∧ nn < 10 ^ (19 - ds.length) ∧ ds.length ≤ 19 ∧ OwnE wr W.heap.size v ds ∧ Digs 10 ds ∧ Hid (val 10 ds + 10 ^ ds.length * nn = N) ∧ Below W.heap.size W wr ∧ nn ≤ 9223372036854775807)
  case atStart=>exact ⟨N,[],rfl,rfl,hN,by simp,ho2,Digs.nil _,hide (by simp [val]),hb2,hN2⟩
  case round=>
   obtain ⟨n,ds,hk,rfl,hnl,hdl,ho,hD,HS,hbw,hn2⟩:=hrel
   have HK:=hide hk
   clear hk ho2
   rcases Nat.eq_zero_or_pos n with h0 | h0
   ·subst h0
    obtain ⟨ra,rc,rfl⟩:=own_slice ho
    obtain ⟨hD2,hc2⟩:=own_dg ho
    have HV2:Hid (signZ neg (val 10 ds) = m):=hide (by have h:=HS.out; rw [Nat.mul_zero,Nat.add_zero] at h; rw [h]; exact HV.out)
    have hR2:=hR.below hbw hR.lt
    have hB2:Below w.heap.size w wr:=hB.trans (hbw.mono hB.size)
    clear hnl
    go_wp2_with fail
    refine (make1_any neg ra rc ds wr hD2 hD hc2 (by omega)).mono ?_
    rintro e w3 ⟨r3,rfl,h3,hb3⟩
    rw [HV2.out] at h3
    obtain ⟨rn,rr,rl,rk,rfl⟩:=h3.parts
    have hR3:=hR2.below hb3 hR2.lt
    have hB3:Below w.heap.size w w3:=hB2.trans (hb3.mono hB2.size)
    obtain ⟨k0,k1,kf⟩:=hR3.c2
    have kf0:=kf 0
    have kf1:=kf 1
    obtain ⟨e0,e1,-⟩:=(hR3.two (.bool rn) (.slice rr rl rk)).c2
    have hI:=h3.store hR3 (.bool rn) (.slice rr rl rk)
    go_wp2_with fail
    refine bodyPost_ret (v:=.agg #[.bool rn,.slice rr rl rk]) (by simp [results,Try.results37,go_sem,e0,e1]) rfl ?_
    rw [← HP.out]
    exact ⟨_,rfl,hI,(hB3.setCell (Nat.le_refl _) _).setCell (Nat.le_refl _) _⟩
   ·have h19:ds.length < 19:=by
     rcases Nat.lt_or_ge ds.length 19 with h | h
     ·exact h
     ·rw [show 19 - ds.length = 0 by omega,Nat.pow_zero] at hnl; omega
    obtain ⟨r,hr⟩:∃ r:Nat,r = n % 10:=⟨_,rfl⟩
    obtain ⟨q,hq⟩:∃ q:Nat,q = n / 10:=⟨_,rfl⟩
    have hr1:(n:Int) % 10 = (r:Int):=by omega
    have HQ1:Hid ((n:Int) / 10 = (q:Int)):=hide (by omega)
    have HF:Hid (n = 10 * q + r ∧ r < 10):=hide (by omega)
    have HQL:Hid (q < 10 ^ (19 - (ds.length + 1))):=hide (by
     rw [show 19 - ds.length = (19 - (ds.length + 1)) + 1 by omega,Nat.pow_succ] at hnl
     omega)
    have e0:decide ((0:Int) < (n:Int)) = true:=decide_eq_true (by omega)
    clear hr hq hnl
    have ho1:=ho.alloc (.cells #[.int .i64 (r:Int)] 3)
    have hle1:=hbw.size
    go_wp2_with (at_builtin; refine wpList_append_int rfl (.tmp 13) (.tmp 16) rfl W.heap.size _ ds rfl ho1 ⟨_,0,none⟩ r rfl ?c1 ?c2 ?c3 ?_)
    case c1=>rw [add_plain]; exact (Blk.new _ _ _).cell 0
    case c2=>omega
    case c3=>simp; omega
    intro v' w2 ho3 hb3
    have hb4:Below W.heap.size W w2:=hbw.trans (((Below.refl _ _).alloc hle1 _).trans hb3)
    clear ho ho1 hbw hb3 hr1
    go_wp2_with fail
    have hk:=HK.out
    have hf:=HF.out
    go_roundg (q + 1)
    case measure=>omega
    case rel=>
     refine ⟨q,ds ++ [r],rfl,by rw [HQ1.out],?_,by simp; omega,ho3,hD.snoc hf.2,hide ?_,hb4,by omega⟩
     ·rw [List.length_append,List.length_singleton]; exact HQL.out
     ·rw [← HS.out,val_snoc,hf.1,List.length_append,List.length_singleton,Nat.pow_succ,Nat.mul_add,Nat.mul_assoc]
      omega

set_option maxHeartbeats 800000 in
theorem RCmp_any {x y:Int} {u v:Value} (w:World) (hx:NumV w u x) (hy:NumV w v y) (hn:Dm x) (hm:Dm y) :
  Calls Try.prog 40 #[u,v] w fun e w'=>e = .returned (.int .i64 (ordZ x y)) ∧ Below w.heap.size w w':=by
 generalize hr:ordZ x y = r
 have HR:=hide hr
 clear hr
 obtain ⟨a,ca,rfl,ha,hda⟩:=hx
 obtain ⟨b,cb,rfl,hb,hdb⟩:=hy
 have cx:=dg_canon T2 x.natAbs
 have cy:=dg_canon T2 y.natAbs
 have HVX:=hide (dg_val T2 x.natAbs)
 have HVY:=hide (dg_val T2 y.natAbs)
 unfold Dm dlen at hn hm
 generalize dg 10 x.natAbs = X at *
 generalize dg 10 y.natAbs = Y at *
 generalize hnx:decide (x < 0) = nx at *
 generalize hny:decide (y < 0) = ny at *
 have HNX:=hide hnx
 have HNY:=hide hny
 clear hnx hny
 obtain ⟨W,hW⟩:∃ W,(w.alloc (.cells #[.bool nx,.slice a X.length ca] 41)).alloc (.cells #[.bool ny,.slice b Y.length cb] 41) = W:=⟨_,rfl⟩
 have hZ:Blk W w.heap.size 41 #[.bool nx,.slice a X.length ca]:=by rw [← hW]; exact (Blk.new w _ _).alloc _
 have hZ2:Blk W (w.heap.size + 1) 41 #[.bool ny,.slice b Y.length cb]:=by rw [← hW]; exact Blk.new_at _ _ _ (by simp)
 have hB:Below w.heap.size w W:=by rw [← hW]; exact ((Below.refl _ _).alloc (Nat.le_refl _) _).alloc (by simp) _
 have hda0:=hda.below hB (Nat.le_refl _)
 have hdb0:=hdb.below hB (Nat.le_refl _)
 obtain ⟨z0,z1,-⟩:=hZ.c2
 obtain ⟨y0,y1,-⟩:=hZ2.c2
 have HW:=hide hW
 clear hW
 go_enter Try.func40,Try.ntmps40
 go_upto_region 1 with (fail)
 rw [HW.out]
 clear HW
 cases nx with
 | true=>
  have hx0:x < 0:=by simpa using HNX.out
  cases ny with
  | true=>
   have hy0:y < 0:=by simpa using HNY.out
   have HV:Hid (ordZ (val 10 Y) (val 10 X) = r):=hide (by rw [HVX.out,HVY.out,← HR.out]; unfold ordZ; split <;> split <;> (try split) <;> (try split) <;> omega)
   go_wp2_with fail
   refine (rcmp_any b a cb ca Y X W hdb0 hda0 cy cx (by omega)).mono ?_
   rintro e w2 ⟨rfl,n,rfl⟩
   rw [HV.out]
   go_wp2_with fail
   go_ret
   exact ⟨rfl,below_drewN hB n⟩
  | false=>
   have hy0:¬ y < 0:=by simpa using HNY.out
   have HV:Hid (r = -1):=hide (by rw [← HR.out]; unfold ordZ; rw [if_pos (by omega)])
   go_wp2_with fail
   go_ret
   exact ⟨by rw [HV.out]; rfl,hB⟩
 | false=>
  have hx0:¬ x < 0:=by simpa using HNX.out
  cases ny with
  | true=>
   have hy0:y < 0:=by simpa using HNY.out
   have HV:Hid (r = 1):=hide (by rw [← HR.out]; unfold ordZ; rw [if_neg (by omega),if_pos (by omega)])
   go_wp2_with fail
   go_ret
   exact ⟨by rw [HV.out]; rfl,hB⟩
  | false=>
   have hy0:¬ y < 0:=by simpa using HNY.out
   have HV:Hid (ordZ (val 10 X) (val 10 Y) = r):=hide (by rw [HVX.out,HVY.out,← HR.out]; unfold ordZ; split <;> split <;> (try split) <;> (try split) <;> omega)
   go_wp2_with fail
   refine (rcmp_any a b ca cb X Y W hda0 hdb0 cx cy (by omega)).mono ?_
   rintro e w2 ⟨rfl,n,rfl⟩
   rw [HV.out]
   go_wp2_with fail
   go_ret
   exact ⟨rfl,below_drewN hB n⟩

section
variable {w c:World} {a b:Option Addr} {ca cb:Nat} {x y:List Nat}
theorem radd_at (hx:Dg .i64 w a x) (hy:Dg .i64 w b y) (dx:Digs 10 x) (dy:Digs 10 y) (hn:x.length ≤ 1099511627776) (hm:y.length ≤ 1099511627776) (hB:Below w.heap.size w c) :
  Calls Try.prog 65 #[.slice a x.length ca,.slice b y.length cb] c (DecPost c (val 10 x + val 10 y) (max x.length y.length + 1)):=radd_any a b ca cb x y c (hx.below hB (Nat.le_refl _)) (hy.below hB (Nat.le_refl _)) dx dy hn hm
theorem rsub_at (hx:Dg .i64 w a x) (hy:Dg .i64 w b y) (dx:Digs 10 x) (dy:Digs 10 y) (hn:x.length ≤ 1099511627776) (hle:y.length ≤ x.length) (hv:val 10 y ≤ val 10 x) (hB:Below w.heap.size w c) :
  Calls Try.prog 67 #[.slice a x.length ca,.slice b y.length cb] c (CanPost c (val 10 x - val 10 y)):=rsub_any a b ca cb x y c (hx.below hB (Nat.le_refl _)) (hy.below hB (Nat.le_refl _)) dx dy hn hle hv
end
theorem make1_can (neg:Bool) (a:Option Addr) (cap n:Nat) (c:World) (hd:Dg .i64 c a (dg 10 n)) (hf:Fit a (dg 10 n).length cap) (hn:(dg 10 n).length ≤ 2199023255552) :
  Calls Try.prog 36 #[.bool neg,.slice a (dg 10 n).length cap] c (NumPost c (signZ neg n)):=by
 have h:=make1_any neg a cap (dg 10 n) c hd (dg_canon T2 n).1 hf hn
 rw [dg_val T2] at h
 exact h

set_option maxRecDepth 100000 in
set_option maxHeartbeats 1600000 in
theorem RAdd_any {x y:Int} {u v:Value} (w:World) (hx:NumV w u x) (hy:NumV w v y) (hn:Dm x) (hm:Dm y) :
  Calls Try.prog 38 #[u,v] w (NumPost w (x + y)):=by
 generalize hP:NumPost w (x + y) = Post
 have HP:=hide hP
 clear hP
 obtain ⟨a,ca,rfl,ha,hda⟩:=hx
 obtain ⟨b,cb,rfl,hb,hdb⟩:=hy
 have cx:=dg_canon T2 x.natAbs
 have cy:=dg_canon T2 y.natAbs
 have HVX:=hide (dg_val T2 x.natAbs)
 have HVY:=hide (dg_val T2 y.natAbs)
 have hll:(dg 10 (x.natAbs - y.natAbs)).length ≤ (dg 10 x.natAbs).length:=dg_len_mono T2 (by omega)
 have hll2:(dg 10 (y.natAbs - x.natAbs)).length ≤ (dg 10 y.natAbs).length:=dg_len_mono T2 (by omega)
 unfold Dm dlen at hn hm
 generalize dg 10 x.natAbs = X at *
 generalize dg 10 y.natAbs = Y at *
 generalize hnx:decide (x < 0) = nx at *
 generalize hny:decide (y < 0) = ny at *
 have HNX:=hide hnx
 have HNY:=hide hny
 clear hnx hny
 have dX:Digs 10 X:=cx.1
 have dY:Digs 10 Y:=cy.1
 have hsx:X.length ≤ 1099511627776:=by omega
 have hsy:Y.length ≤ 1099511627776:=by omega
 have hA:w.heap.size ≠ w.heap.size + 1 + 1:=by omega
 have hC:w.heap.size + 1 ≠ w.heap.size + 1 + 1:=by omega
 obtain ⟨W,hW⟩:∃ W,((w.alloc (.cells #[.bool nx,.slice a X.length ca] 41)).alloc (.cells #[.bool ny,.slice b Y.length cb] 41)).alloc (.cells #[.bool false,.slice none 0 0] 41) = W:=⟨_,rfl⟩
 have hZ:Blk W w.heap.size 41 #[.bool nx,.slice a X.length ca]:=by rw [← hW]; exact ((Blk.new w _ _).alloc _).alloc _
 have hZ2:Blk W (w.heap.size + 1) 41 #[.bool ny,.slice b Y.length cb]:=by rw [← hW]; exact (Blk.new_at _ _ _ (by simp)).alloc _
 have hZ3:Blk W (w.heap.size + 1 + 1) 41 #[.bool false,.slice none 0 0]:=by rw [← hW]; exact Blk.new_at _ _ _ (by simp)
 have hB:Below w.heap.size w W:=by rw [← hW]; exact (((Below.refl _ _).alloc (Nat.le_refl _) _).alloc (by simp) _).alloc (by simp; omega) _
 have hK:Kp w 41 (w.heap.size + 1 + 1) W:=⟨hB,by omega,_,_,_,_,hZ3⟩
 have hda0:=hda.below hB (Nat.le_refl _)
 have hdb0:=hdb.below hB (Nat.le_refl _)
 obtain ⟨c0,c1,-⟩:=hZ.c2
 obtain ⟨d0,d1,-⟩:=hZ2.c2
 have HW:=hide hW
 clear hW hZ hZ2 hZ3 hB
 go_enter Try.func38,Try.ntmps38
 go_upto_region 1 with (fail)
 rw [HW.out]
 clear HW
 by_cases hs:nx = ny
 ·subst hs
  have HV:∀ n,n = val 10 X + val 10 Y → Hid (signZ nx n = x + y):=fun n hh=>hide (by
   rw [hh,HVX.out,HVY.out,← HNX.out]
   have h1:=HNX.out
   have h2:=HNY.out
   unfold signZ
   by_cases h0:x < 0
   ·have h3:y < 0:=by rw [← h1] at h2; simpa [h0] using h2
    simp [h0]; omega
   ·have h3:¬ y < 0:=by rw [← h1] at h2; simpa [h0] using h2
    simp [h0]; omega)
  have HV:=HV _ rfl
  go_upto_region 2 with (fail)
  have hK1:=hK.drew
  go_region_held3 (fun w'=>w'.cell? ⟨w.heap.size,0,none⟩ = some (.bool nx) ∧ w'.cell? ⟨w.heap.size,1,none⟩ = some (.slice a X.length ca) ∧ w'.cell? ⟨w.heap.size + 1,0,none⟩ = some (.bool nx) ∧ w'.cell? ⟨w.heap.size + 1,1,none⟩ = some (.slice b Y.length cb) ∧ Kp w 41 (w.heap.size + 1 + 1) w')
   (first | with_reducible exact keepK4 (by assumption) hb1 | with_reducible exact keepP4 hA hA hC hC _ _ (isB_of _) (isS_of _ _ _) (by assumption) | go_keep)
   (first
    | (go_at_call 65; (with_reducible refine (radd_at hda hdb dX dY hsx hsy (by go_split_ands; exact Kp.bel (by assumption))).mono ?_); rintro e w1 ⟨ra,rc,rs,rfl,hrf,hrd,hrD,hrv,hrl,hb1⟩)
    | (go_at_call 36; (with_reducible refine (make1_any nx ra rc rs _ hrd hrD hrf (by omega)).mono ?_); rintro e w2 ⟨r,rfl,hrI,hb1⟩; obtain ⟨rn,rb,rl,rk,rfl⟩:=hrI.parts; obtain ⟨_,_,_,_,k0,k1,kf0,kf1,hX4⟩:=Kp.at (c:=w1) (t:=41) (g:=w.heap.size + 1 + 1) (w:=w) (by go_split_ands; assumption) hb1))
  rename_i hS
  have hKf:=hS.2.2.2.2
  obtain ⟨e0,e1,-⟩:=(hX4.two (.bool rn) (.slice rb rl rk)).c2
  have hI:=hrI.store hX4 (.bool rn) (.slice rb rl rk)
  rw [hrv,HV.out] at hI
  go_wp2_with fail
  refine bodyPost_ret (v:=.agg #[.bool rn,.slice rb rl rk]) (by simp [results,Try.results38,go_sem,e0,e1]) rfl ?_
  rw [← HP.out]
  exact ⟨_,rfl,hI,hKf.1⟩
 ·have e1:(nx == ny) = false:=beq_eq_false_iff_ne.2 hs
  have HNE:=hide hs
  clear hs
  go_wp2_with fail
  refine (rcmp_any a b ca cb X Y W hda0 hdb0 cx cy (by omega)).mono ?_
  rintro e w2 ⟨rfl,n,rfl⟩
  have hS2:(W.drewN n).cell? ⟨w.heap.size,0,none⟩ = some (.bool nx) ∧ (W.drewN n).cell? ⟨w.heap.size,1,none⟩ = some (.slice a X.length ca) ∧ (W.drewN n).cell? ⟨w.heap.size + 1,0,none⟩ = some (.bool ny) ∧ (W.drewN n).cell? ⟨w.heap.size + 1,1,none⟩ = some (.slice b Y.length cb) ∧ Kp w 41 (w.heap.size + 1 + 1) (W.drewN n):=⟨c0,c1,d0,d1,hK.drewN n⟩
  generalize W.drewN n = W2 at hS2 ⊢
  clear hK hda0 hdb0 c0 c1 d0 d1
  obtain ⟨c0,c1,d0,d1,hK⟩:=hS2
  by_cases hlt:val 10 X < val 10 Y
  ·have HV:Hid (signZ ny (val 10 Y - val 10 X) = x + y):=hide (by
    have h1:=HNX.out
    have h2:=HNY.out
    have h3:=HNE.out
    rw [HVX.out,HVY.out] at *
    unfold signZ
    by_cases h0:y < 0
    ·have h4:¬ x < 0:=by intro h4; exact h3 (by rw [← h1,← h2]; simp [h0,h4])
     rw [← h2]; simp [h0]; omega
    ·have h4:x < 0:=by rcases Int.lt_or_le x 0 with h4 | h4; exact h4; exact absurd (by rw [← h1,← h2]; simp [h0]; omega) h3
     rw [← h2]; simp [h0]; omega)
   have hlen:X.length ≤ Y.length:=by
    rcases Nat.lt_or_ge Y.length X.length with h | h
    ·have:=cy.lt_of_len cx h; omega
    ·exact h
   have hv:val 10 X ≤ val 10 Y:=by omega
   rw [← HVX.out,← HVY.out] at hll2
   rw [show ordZ (val 10 X) (val 10 Y) = -1 by unfold ordZ; rw [if_pos (by omega)]]
   clear hlt
   have e2:decide ((0:Int) ≤ -1) = false:=rfl
   go_upto_region 5 with (fail)
   have hK1:=hK.drew
   go_region_held3 (fun w'=>w'.cell? ⟨w.heap.size,0,none⟩ = some (.bool nx) ∧ w'.cell? ⟨w.heap.size,1,none⟩ = some (.slice a X.length ca) ∧ w'.cell? ⟨w.heap.size + 1,0,none⟩ = some (.bool ny) ∧ w'.cell? ⟨w.heap.size + 1,1,none⟩ = some (.slice b Y.length cb) ∧ Kp w 41 (w.heap.size + 1 + 1) w')
    (first | with_reducible exact keepK4 (by assumption) hb1 | with_reducible exact keepP4 hA hA hC hC _ _ (isB_of _) (isS_of _ _ _) (by assumption) | go_keep)
    (first
     | (go_at_call 67; (with_reducible refine (rsub_at hdb hda dY dX hsy hlen hv (by go_split_ands; exact Kp.bel (by assumption))).mono ?_); rintro e w1 ⟨ra,rc,rfl,hrf,hrd,hfr,hb1⟩)
     | (go_at_call 36; (with_reducible refine (make1_can ny ra rc (val 10 Y - val 10 X) _ hrd hrf (by omega)).mono ?_); rintro e w2 ⟨r,rfl,hrI,hb1⟩; obtain ⟨rn,rb,rl,rk,rfl⟩:=hrI.parts; obtain ⟨_,_,_,_,k0,k1,kf0,kf1,hX4⟩:=Kp.at (c:=w1) (t:=41) (g:=w.heap.size + 1 + 1) (w:=w) (by go_split_ands; assumption) hb1))
   rename_i hS
   have hKf:=hS.2.2.2.2
   obtain ⟨e0,e1,-⟩:=(hX4.two (.bool rn) (.slice rb rl rk)).c2
   have hI:=hrI.store hX4 (.bool rn) (.slice rb rl rk)
   rw [HV.out] at hI
   go_wp2_with fail
   refine bodyPost_ret (v:=.agg #[.bool rn,.slice rb rl rk]) (by simp [results,Try.results38,go_sem,e0,e1]) rfl ?_
   rw [← HP.out]
   exact ⟨_,rfl,hI,hKf.1⟩
  ·have HV:Hid (signZ nx (val 10 X - val 10 Y) = x + y):=hide (by
    have h1:=HNX.out
    have h2:=HNY.out
    have h3:=HNE.out
    rw [HVX.out,HVY.out] at *
    unfold signZ
    by_cases h0:x < 0
    ·have h4:¬ y < 0:=by intro h4; exact h3 (by rw [← h1,← h2]; simp [h0,h4])
     rw [← h1]; simp [h0]; omega
    ·have h4:y < 0:=by rcases Int.lt_or_le y 0 with h4 | h4; exact h4; exact absurd (by rw [← h1,← h2]; simp [h0]; omega) h3
     rw [← h1]; simp [h0]; omega)
   have hlen:Y.length ≤ X.length:=by
    rcases Nat.lt_or_ge X.length Y.length with h | h
    ·have:=cx.lt_of_len cy h; omega
    ·exact h
   have hv:val 10 Y ≤ val 10 X:=by omega
   rw [← HVX.out,← HVY.out] at hll
   have ho:0 ≤ ordZ (val 10 X) (val 10 Y):=by unfold ordZ; rw [if_neg (by omega)]; split <;> omega
   generalize ordZ (val 10 X) (val 10 Y) = o at ho ⊢
   have e2:decide ((0:Int) ≤ o) = true:=decide_eq_true ho
   clear hlt
   go_upto_region 4 with (fail)
   have hK1:=hK.drew
   go_region_held3 (fun w'=>w'.cell? ⟨w.heap.size,0,none⟩ = some (.bool nx) ∧ w'.cell? ⟨w.heap.size,1,none⟩ = some (.slice a X.length ca) ∧ w'.cell? ⟨w.heap.size + 1,0,none⟩ = some (.bool ny) ∧ w'.cell? ⟨w.heap.size + 1,1,none⟩ = some (.slice b Y.length cb) ∧ Kp w 41 (w.heap.size + 1 + 1) w')
    (first | with_reducible exact keepK4 (by assumption) hb1 | with_reducible exact keepP4 hA hA hC hC _ _ (isB_of _) (isS_of _ _ _) (by assumption) | go_keep)
    (first
     | (go_at_call 67; (with_reducible refine (rsub_at hda hdb dX dY hsx hlen hv (by go_split_ands; exact Kp.bel (by assumption))).mono ?_); rintro e w1 ⟨ra,rc,rfl,hrf,hrd,hfr,hb1⟩)
     | (go_at_call 36; (with_reducible refine (make1_can nx ra rc (val 10 X - val 10 Y) _ hrd hrf (by omega)).mono ?_); rintro e w2 ⟨r,rfl,hrI,hb1⟩; obtain ⟨rn,rb,rl,rk,rfl⟩:=hrI.parts; obtain ⟨_,_,_,_,k0,k1,kf0,kf1,hX4⟩:=Kp.at (c:=w1) (t:=41) (g:=w.heap.size + 1 + 1) (w:=w) (by go_split_ands; assumption) hb1))
   rename_i hS
   have hKf:=hS.2.2.2.2
   obtain ⟨e0,e1,-⟩:=(hX4.two (.bool rn) (.slice rb rl rk)).c2
   have hI:=hrI.store hX4 (.bool rn) (.slice rb rl rk)
   rw [HV.out] at hI
   go_wp2_with fail
   refine bodyPost_ret (v:=.agg #[.bool rn,.slice rb rl rk]) (by simp [results,Try.results38,go_sem,e0,e1]) rfl ?_
   rw [← HP.out]
   exact ⟨_,rfl,hI,hKf.1⟩

structure TRow (x y:List Nat) (i:Nat) (out:List Nat):Prop where
 len:out.length = x.length + y.length + 1
 digs:Digs 10 out
 val_:val 10 out = val 10 (x.take i) * val 10 y
 zero:∀ k,i + y.length ≤ k → k < out.length → out[k]? = some 0
structure SRow (y:List Nat) (i:Nat) (a:Nat) (o0:List Nat) (j:Nat) (out:List Nat) (c:Nat):Prop where
 len:out.length = o0.length
 digs:Digs 10 out
 car:c < 10
 val_:val 10 out + 10 ^ (i + j) * c = val 10 o0 + 10 ^ i * (a * val 10 (y.take j))
 rest:∀ k,i + j ≤ k → out[k]? = o0[k]?
theorem TRow.start (x y:List Nat):TRow x y 0 (List.replicate (x.length + y.length + 1) 0):=by
 refine ⟨by simp,?_,by simp [val,val_zeros],fun k _ hk=>by simp at hk; simp [hk]⟩
 intro d hd
 have:=List.eq_of_mem_replicate hd
 omega
theorem SRow.start {y:List Nat} {i a:Nat} {o0:List Nat} (h:Digs 10 o0):SRow y i a o0 0 o0 0:=
 ⟨rfl,h,by omega,by simp [val],fun _ _=>rfl⟩
theorem SRow.next {y:List Nat} {i a j c q r e:Nat} {o0 out:List Nat} (h:SRow y i a o0 j out c) (he:val 10 (y.take (j + 1)) = val 10 (y.take j) + 10 ^ j * e) (ho:i + j < out.length) (hq:c + out[i + j] + a * e = 10 * q + r) (hr:r < 10) (hq1:q < 10) :
  SRow y i a o0 (j + 1) (out.set (i + j) r) q:=by
 refine ⟨by simp [h.len],h.digs.set hr,hq1,?_,?_⟩
 ·have hs:=val_set (b:=10) out (i + j) r ho
  have hv:=h.val_
  rw [he]
  have e1:10 ^ i * (a * (val 10 (y.take j) + 10 ^ j * e)) = 10 ^ i * (a * val 10 (y.take j)) + 10 ^ (i + j) * (a * e):=by
   rw [Nat.mul_add,Nat.mul_add,Nat.pow_add,Nat.mul_assoc]
   congr 1
   rw [← Nat.mul_assoc a,Nat.mul_comm a,Nat.mul_assoc]
  have e2:10 ^ (i + j) * (c + out[i + j] + a * e) = 10 ^ (i + (j + 1)) * q + 10 ^ (i + j) * r:=by
   rw [hq,Nat.mul_add,← Nat.add_assoc i j 1,Nat.pow_succ,Nat.mul_assoc]
  rw [Nat.mul_add,Nat.mul_add] at e2
  rw [e1]
  omega
 ·intro k hk
  rw [List.getElem?_set_ne (by omega)]
  exact h.rest k (by omega)
theorem TRow.next {x y:List Nat} {i j:Nat} {o0 out:List Nat} (h:TRow x y i o0) (hi:i < x.length) (hI:SRow y i x[i] o0 j out 0) (hj:y.length ≤ j) (hj2:j ≤ y.length + 1):TRow x y (i + 1) out:=by
 refine ⟨by rw [hI.len,h.len],hI.digs,?_,?_⟩
 ·have hv:=hI.val_
  rw [Nat.mul_zero,Nat.add_zero,List.take_of_length_le hj] at hv
  rw [tval_take_succ hi,Nat.add_mul,Nat.mul_assoc,← h.val_]
  exact hv
 ·intro k hk hkl
  rw [hI.rest k (by omega)]
  exact h.zero k (by omega) (by rw [← hI.len]; exact hkl)

theorem wpList_make_zeroI {w:World} {ops:Array Oper} {rest:List Oper} {o:Oper} {a:Act} {Q:Exit → Act → World → Prop} (hgd:o.guard = none) (l c:Operand) (ho:o.op = Op.makeSlice 26 l c)
  (L C:Int) (n:Nat) (hl:a.eval l = .int .i64 L) (hc:a.eval c = .int .i64 C) (hL:L = (n:Int)) (hC:C = (n:Int)) (hn:n ≤ 4398046511104)
  (hK:∀ w',DRow .i64 3 w' w.heap.size (List.replicate n 0) → Below w.heap.size w w' → wpList Try.prog ops Q rest (a.put o.dst (.slice (some ⟨w.heap.size,0,none⟩) n n)) w'):wpList Try.prog ops Q (o :: rest) a w:=by
 obtain ⟨i0,hi0,hz0,hz1,hz2⟩:=info_parts info64
 refine wpList_make_full w hgd l c 26 ho w.heap.size 3 i0 (.int .i64 0) 1 Try.underlying26 hi0 hz0 hz1 .i64 .i64 L C n hl hc hL hC (by rw [hz2]; omega) (by unfold maxLen; omega) (Nat.le_refl _) (fun w' h1 h2=>hK w' ?_ (below_of_grown h2 (fun g h=>by cases h) (Nat.le_refl _)))
 rw [made_zero] at h1
 exact own_row h1

structure MuSt (w:World) (nx:Bool) (vx:Value) (ny:Bool) (vy:Value) (G:Nat) (out:List Nat) (c:World):Prop where
 bx:Blk c w.heap.size 41 #[.bool nx,vx]
 by_:Blk c (w.heap.size + 1) 41 #[.bool ny,vy]
 bz:Blk c (w.heap.size + 1 + 1) 41 #[.bool false,.slice none 0 0]
 row:DRow .i64 3 c G out
 bel:Below w.heap.size w c
theorem MuSt.set {w c:World} {nx ny:Bool} {vx vy:Value} {G:Nat} {out:List Nat} (h:MuSt w nx vx ny vy G out c) (hG:w.heap.size + 3 ≤ G) (i d:Nat):MuSt w nx vx ny vy G (out.set i d) (c.setCell ⟨G,i,none⟩ (.int .i64 (d:Int))):=
 ⟨h.bx.far (by simp; omega) _,h.by_.far (by simp; omega) _,h.bz.far (by simp; omega) _,h.row.set i d,h.bel.setCell (by simp; omega) _⟩
theorem MuSt.drewN {w c:World} {nx ny:Bool} {vx vy:Value} {G:Nat} {out:List Nat} (h:MuSt w nx vx ny vy G out c) (n:Nat):MuSt w nx vx ny vy G out (c.drewN n):=⟨h.bx,h.by_,h.bz,h.row,below_drewN h.bel n⟩

set_option maxRecDepth 100000 in
set_option maxHeartbeats 3200000 in
theorem RMul_any {x y:Int} {u v:Value} (w:World) (hx:NumV w u x) (hy:NumV w v y) (hn:Dm x) (hm:Dm y) :
  Calls Try.prog 39 #[u,v] w (NumPost w (x * y)):=by
 generalize hP:NumPost w (x * y) = Post
 have HP:=hide hP
 clear hP
 obtain ⟨a,ca,rfl,ha,hda⟩:=hx
 obtain ⟨b,cb,rfl,hb,hdb⟩:=hy
 have dX:Digs 10 (dg 10 x.natAbs):=(dg_canon T2 x.natAbs).1
 have dY:Digs 10 (dg 10 y.natAbs):=(dg_canon T2 y.natAbs).1
 have HS:Hid (signZ (decide (x < 0) != decide (y < 0)) (val 10 (dg 10 x.natAbs) * val 10 (dg 10 y.natAbs)) = x * y):=hide (by rw [dg_val T2,dg_val T2]; exact sign_mul x y)
 unfold Dm dlen at hn hm
 generalize dg 10 x.natAbs = X at *
 generalize dg 10 y.natAbs = Y at *
 generalize decide (x < 0) = nx at *
 generalize decide (y < 0) = ny at *
 obtain ⟨W,hW⟩:∃ W,((w.alloc (.cells #[.bool nx,.slice a X.length ca] 41)).alloc (.cells #[.bool ny,.slice b Y.length cb] 41)).alloc (.cells #[.bool false,.slice none 0 0] 41) = W:=⟨_,rfl⟩
 have hZ:Blk W w.heap.size 41 #[.bool nx,.slice a X.length ca]:=by rw [← hW]; exact ((Blk.new w _ _).alloc _).alloc _
 have hZ2:Blk W (w.heap.size + 1) 41 #[.bool ny,.slice b Y.length cb]:=by rw [← hW]; exact (Blk.new_at _ _ _ (by simp)).alloc _
 have hZ3:Blk W (w.heap.size + 1 + 1) 41 #[.bool false,.slice none 0 0]:=by rw [← hW]; exact Blk.new_at _ _ _ (by simp)
 have hB:Below w.heap.size w W:=by rw [← hW]; exact (((Below.refl _ _).alloc (Nat.le_refl _) _).alloc (by simp) _).alloc (by simp; omega) _
 have hsz:W.heap.size = w.heap.size + 3:=by rw [← hW]; simp
 have HSZ:=hide hsz
 obtain ⟨c0,c1,-⟩:=hZ.c2
 obtain ⟨d0,d1,-⟩:=hZ2.c2
 have HW:=hide hW
 clear hW hsz
 go_enter Try.func39,Try.ntmps39
 go_upto_region 1 with (fail)
 rw [HW.out]
 clear HW
 go_wp2_with (at_make; refine wpList_make_zeroI rfl _ _ rfl _ _ (X.length + Y.length + 1) rfl rfl (by omega) (by omega) (by omega) ?_)
 intro w2 hrow hb2
 have s0:MuSt w nx (.slice a X.length ca) ny (.slice b Y.length cb) W.heap.size (List.replicate (X.length + Y.length + 1) 0) w2:=⟨hZ.below hb2 hZ.lt,hZ2.below hb2 hZ2.lt,hZ3.below hb2 hZ3.lt,hrow,hB.trans (hb2.mono hB.size)⟩
 have hG:w.heap.size + 3 ≤ W.heap.size:=by rw [HSZ.out]; exact Nat.le_refl _
 have hM0:=TRow.start X Y
 clear hZ hZ2 hZ3 hB hrow hb2 c0 c1 d0 d1 HSZ
 generalize W.heap.size = G at *
 go_wp2_with fail
 go_loopg [6,7,8] X.length (fun r v _c _k wr=>∃ (i:Nat) (out:List Nat),i + r = X.length ∧ v = .int .i64 (i:Int) ∧ TRow X Y i out ∧ MuSt w nx (.slice a X.length ca) ny (.slice b Y.length cb) G out wr)
 case atStart=>exact ⟨0,_,by omega,rfl,hM0,s0⟩
 case round=>
  obtain ⟨i,out,hir,rfl,hM,s⟩:=hrel
  have HI:=hide hir
  clear hir hM0 s0
  obtain ⟨c0,c1,-⟩:=s.bx.c2
  obtain ⟨d0,d1,-⟩:=s.by_.c2
  have hol:=hM.len
  rcases Nat.lt_or_ge i X.length with hi | hi
  ·obtain ⟨b1,o1,rfl,hc1,hl1⟩:=hda.at hi
   have hA9:=dX.at hi
   have hI0:SRow Y i X[i] out 0 out 0:=SRow.start hM.digs
   have HMN:=hide (fun (o':List Nat) (j:Nat)=>TRow.next (out:=o') (j:=j) hM hi)
   have HZ:=hide hM.zero
   generalize X[i] = A at hc1 hA9 hI0 HMN
   clear hM
   obtain ⟨wo,hwo⟩:∃ wo:World,wo = wr:=⟨_,rfl⟩
   subst hwo
   obtain ⟨go,hgo⟩:∃ go:Nat,go = gk:=⟨_,rfl⟩
   subst hgo
   go_wp2_with fail
   go_loopg [7,8] (Y.length + 1) (fun r c v wr=>∃ (j:Nat) (o':List Nat) (cc:Nat),j + r = Y.length + 1 ∧ (r = 0 → cc = 0) ∧ v = .int .i64 (j:Int) ∧ c = .int .i64 (cc:Int) ∧ SRow Y i A out j o' cc ∧ MuSt w nx (.slice (some ⟨b1,o1,none⟩) X.length ca) ny (.slice b Y.length cb) G o' wr)
   case atStart=>exact ⟨0,out,0,by omega,fun _=>rfl,rfl,rfl,hI0,s⟩
   case round=>
    obtain ⟨j,o',cc,hjr,hr0,rfl,rfl,hI,t⟩:=hrel
    have HJ:=hide hjr
    have HR0:=hide hr0
    have hj1:j ≤ Y.length + 1:=by omega
    clear hjr hr0 hI0 s c0 c1 d0 d1
    obtain ⟨c0,c1,-⟩:=t.bx.c2
    obtain ⟨d0,d1,-⟩:=t.by_.c2
    have hol':=hI.len
    have hcc9:=hI.car
    rcases Nat.lt_or_ge j Y.length with hj | hj
    ·obtain ⟨b2,o2,rfl,hc2,hl2⟩:=hdb.at hj
     have hc1':=(t.bel.cell (p:=⟨b1,o1 + i,none⟩) hl1).trans hc1
     have hc2':=(t.bel.cell (p:=⟨b2,o2 + j,none⟩) hl2).trans hc2
     have hB9:=dY.at hj
     have hij:i + j < o'.length:=by omega
     have hij2:i + j < X.length + Y.length + 1:=by omega
     have hco:=t.row.cell hij
     have hfo:=t.row.frozen (i + j)
     have ho9:=hI.digs.at hij
     have tj:decide (j < Y.length) = true:=decide_eq_true hj
     have HN:=hide (fun (q r:Nat)=>SRow.next (q:=q) (r:=r) hI (tval_take_succ hj) hij)
     generalize Y[j] = B at hc2' hB9 HN
     generalize o'[i + j] = O at hco ho9 HN
     clear hI
     have hab2:A * B ≤ 9 * 9:=Nat.mul_le_mul (by omega) (by omega)
     obtain ⟨AB,hAB⟩:∃ AB:Nat,A * B = AB:=⟨_,rfl⟩
     rw [hAB] at hab2 HN
     have hab:(A:Int) * (B:Int) = (AB:Int):=by rw [← hAB]; simp
     have hw1:IntKind.i64.wrap ((A:Int) * (B:Int)) = (AB:Int):=by rw [hab]; exact IntWalk.i64_in _ (by omega)
     have hw2:IntKind.i64.wrap ((cc:Int) + (O:Int) + (AB:Int)) = ((cc + O + AB:Nat):Int):=by rw [IntWalk.i64_in _ (by omega)]; omega
     clear hAB hab
     obtain ⟨r,hr⟩:∃ r:Nat,r = (cc + O + AB) % 10:=⟨_,rfl⟩
     obtain ⟨q,hq⟩:∃ q:Nat,q = (cc + O + AB) / 10:=⟨_,rfl⟩
     have HQ1:Hid (((cc + O + AB:Nat):Int) / 10 = (q:Int)):=hide (by omega)
     have hr1:((cc + O + AB:Nat):Int) % 10 = (r:Int):=by omega
     have HF:Hid (cc + O + AB = 10 * q + r ∧ r < 10 ∧ q < 10):=hide (by omega)
     have hr9:r < 10:=by omega
     have hS9:cc + O + AB ≤ 1000:=by omega
     have HT:=hide (fun n=>(t.drewN n).set hG (i + j) r)
     generalize cc + O + AB = S at *
     clear hr hq
     go_wp2_with fail
     go_quiet (fail)
     go_wp2_with fail
     have hjr:=HJ.out
     have hN:=HN.out q r HF.out.1 HF.out.2.1 HF.out.2.2
     go_roundg (gk - 1)
     case measure=>omega
     case rel=>exact ⟨j + 1,_,q,by omega,fun h=>by omega,by go_num,by rw [HQ1.out],hN,HT.out _⟩
    ·have tj:decide (j < Y.length) = false:=decide_eq_false (by omega)
     rcases Nat.eq_zero_or_pos cc with hc0 | hc0
     ·subst hc0
      have tc:decide ((0:Int) < ((0:Nat):Int)) = false:=rfl
      have hM2:=HMN.out o' j hI hj hj1
      clear hI
      go_wp2_with fail
      have hir:=HI.out
      go_roundg (go - 1)
      case measure=>omega
      case rel=>exact ⟨i + 1,_,by omega,by go_num,hM2,t⟩
     ·have tc:decide ((0:Int) < (cc:Int)) = true:=decide_eq_true (by omega)
      have tc2:decide (0 < cc) = true:=decide_eq_true hc0
      obtain rfl:j = Y.length:=by
       have h1:=HJ.out
       have h2:=HR0.out
       rcases Nat.eq_zero_or_pos gk with h | h
       ·have:=h2 h; omega
       ·omega
      have hij:i + Y.length < o'.length:=by omega
      have hij2:i + Y.length < X.length + Y.length + 1:=by omega
      have hz:o'[i + Y.length] = 0:=by
       have h1:=hI.rest (i + Y.length) (Nat.le_refl _)
       rw [HZ.out _ (Nat.le_refl _) (by omega),List.getElem?_eq_getElem hij] at h1
       exact Option.some.inj h1
      have hco:=t.row.cell hij
      rw [hz] at hco
      have hfo:=t.row.frozen (i + Y.length)
      have hN:=hI.next (q:=0) (r:=cc) (e:=0) (tval_take_ge (Nat.le_refl _)) hij (by rw [hz]; omega) hcc9 (by omega)
      have HT:=hide (t.set hG (i + Y.length) cc)
      have hm1:(cc:Int) % 10 = (cc:Int):=by omega
      have HQ1:Hid ((cc:Int) / 10 = ((0:Nat):Int)):=hide (by omega)
      clear hI hz
      go_wp2_with fail
      have hjr:=HJ.out
      go_roundg (gk - 1)
      case measure=>omega
      case rel=>exact ⟨Y.length + 1,_,0,by omega,fun _=>rfl,by go_num,by rw [HQ1.out],hN,HT.out⟩
  ·have hgd:=s.row.dg
   have HV:Hid (signZ (nx != ny) (val 10 out) = x * y):=hide (by rw [hM.val_,List.take_of_length_le hi]; exact HS.out)
   have hod:=hM.digs
   have hsg:=make1_any (nx != ny) (some ⟨G,0,none⟩) (X.length + Y.length + 1) out wr hgd hod ⟨by omega,fun h=>by cases h⟩ (by omega)
   rw [hol] at hsg
   have hB2:=s.bel
   have hR2:=s.bz
   clear s hM
   go_wp2_with fail
   refine hsg.mono ?_
   clear hsg
   rintro e w3 ⟨r3,rfl,h3,hb3⟩
   rw [HV.out] at h3
   obtain ⟨rn,rr,rl,rk,rfl⟩:=h3.parts
   have hR3:=hR2.below hb3 hR2.lt
   have hB3:Below w.heap.size w w3:=hB2.trans (hb3.mono hB2.size)
   obtain ⟨k0,k1,kf⟩:=hR3.c2
   have kf0:=kf 0
   have kf1:=kf 1
   obtain ⟨e0,e1,-⟩:=(hR3.two (.bool rn) (.slice rr rl rk)).c2
   have hI:=h3.store hR3 (.bool rn) (.slice rr rl rk)
   go_wp2_with fail
   refine bodyPost_ret (v:=.agg #[.bool rn,.slice rr rl rk]) (by simp [results,Try.results39,go_sem,e0,e1]) rfl ?_
   rw [← HP.out]
   exact ⟨_,rfl,hI,(hB3.setCell (by simp; omega) _).setCell (by simp; omega) _⟩

structure DvSt (X:List Nat) (Y k:Nat) (Q:List Nat) (p:Nat):Prop where
 len:Q.length = X.length
 digs:Digs 10 Q
 lo:∀ j,j < k → j < Q.length → Q[j]? = some 0
 val_:val 10 (X.drop k) = val 10 (Q.drop k) * Y + p
 lt:p < Y
theorem DvSt.start (X:List Nat) {Y:Nat} (hY:0 < Y):DvSt X Y X.length (List.replicate X.length 0) 0:=by
 refine ⟨by simp,?_,fun j hj hl=>by simp at hl; simp [hl],by simp [val],hY⟩
 intro d hd
 have:=List.eq_of_mem_replicate hd
 omega
theorem DvSt.next {X:List Nat} {Y k:Nat} {Q:List Nat} {p t g:Nat} (h:DvSt X Y (k + 1) Q p) (hk:k < X.length) (he:X[k] + 10 * p = t * Y + g) (hg:g < Y) (hX:X[k] < 10):DvSt X Y k (Q.set k t) g:=by
 have hl:=h.len
 have ht:t < 10:=by
  rcases Nat.lt_or_ge t 10 with h1 | h1
  ·exact h1
  ·have h2:10 * Y ≤ t * Y:=Nat.mul_le_mul_right _ h1
   have h3:=h.lt
   omega
 refine ⟨by simp [hl],h.digs.set ht,?_,?_,hg⟩
 ·intro j hj hjl
  rw [List.getElem?_set_ne (by omega)]
  exact h.lo j (by omega) (by simpa using hjl)
 ·have e1:val 10 (X.drop k) = X[k] + 10 * val 10 (X.drop (k + 1)):=by rw [List.drop_eq_getElem_cons hk]; rfl
  have e2:(Q.set k t).drop k = t :: Q.drop (k + 1):=by
   rw [List.drop_eq_getElem_cons (show k < (Q.set k t).length by simp; omega)]
   congr 1
   ·simp
   ·rw [List.drop_set_of_lt (by omega)]
  rw [e1,h.val_,e2]
  show _ = (t + 10 * val 10 (Q.drop (k + 1))) * Y + g
  rw [Nat.add_mul,Nat.mul_add,Nat.mul_assoc]
  omega
theorem DvSt.done {X:List Nat} {Y:Nat} {Q:List Nat} {p:Nat} (h:DvSt X Y 0 Q p):val 10 Q = val 10 X / Y ∧ p = val 10 X % Y:=by
 have hv:=h.val_
 have hlt:=h.lt
 rw [List.drop_zero,List.drop_zero] at hv
 rw [hv,Nat.mul_comm]
 refine ⟨?_,?_⟩
 ·rw [Nat.mul_add_div (by omega),Nat.div_eq_of_lt hlt,Nat.add_zero]
 ·rw [Nat.mul_add_mod,Nat.mod_eq_of_lt hlt]

structure DvW (w:World) (nx:Bool) (vx:Value) (ny:Bool) (vy:Value) (G:Nat) (Q:List Nat) (ra:Option Addr) (rc p:Nat) (c:World):Prop where
 bx:Blk c w.heap.size 41 #[.bool nx,vx]
 by_:Blk c (w.heap.size + 1) 41 #[.bool ny,vy]
 bz:Blk c (w.heap.size + 1 + 1) 41 #[.bool false,.slice none 0 0]
 bv:Blk c (w.heap.size + 1 + 1 + 1) 41 #[.bool false,.slice none 0 0]
 row:DRow .i64 3 c G Q
 rd:Dg .i64 c ra (dg 10 p)
 rf:Fit ra (dg 10 p).length rc
 rn:∀ ad,ra = some ad → G < ad.block
 bel:Below w.heap.size w c
section
variable {w c c':World} {nx ny:Bool} {vx vy:Value} {G:Nat} {Q:List Nat} {ra ra':Option Addr} {rc rc' p p':Nat}
theorem DvW.grow (h:DvW w nx vx ny vy G Q ra rc p c) (hb:Below c.heap.size c c') (rd:Dg .i64 c' ra' (dg 10 p')) (rf:Fit ra' (dg 10 p').length rc') (rn:∀ ad,ra' = some ad → c.heap.size ≤ ad.block):DvW w nx vx ny vy G Q ra' rc' p' c':=
 ⟨h.bx.below hb h.bx.lt,h.by_.below hb h.by_.lt,h.bz.below hb h.bz.lt,h.bv.below hb h.bv.lt,h.row.below hb h.row.lt,rd,rf,fun ad e=>Nat.lt_of_lt_of_le h.row.lt (rn ad e),h.bel.trans (hb.mono h.bel.size)⟩
theorem DvW.drewN (h:DvW w nx vx ny vy G Q ra rc p c) (n:Nat):DvW w nx vx ny vy G Q ra rc p (c.drewN n):=⟨h.bx,h.by_,h.bz,h.bv,h.row,h.rd,h.rf,h.rn,below_drewN h.bel n⟩
theorem DvW.set (h:DvW w nx vx ny vy G Q ra rc p c) (hG:w.heap.size + 4 ≤ G) (i d:Nat):DvW w nx vx ny vy G (Q.set i d) ra rc p (c.setCell ⟨G,i,none⟩ (.int .i64 (d:Int))):=by
 refine ⟨h.bx.far (by simp; omega) _,h.by_.far (by simp; omega) _,h.bz.far (by simp; omega) _,h.bv.far (by simp; omega) _,h.row.set i d,?_,h.rf,h.rn,h.bel.setCell (by simp; omega) _⟩
 intro hn
 obtain ⟨b,off,e,hc⟩:=h.rd hn
 refine ⟨b,off,e,fun j hj=>?_⟩
 have hlt:G < b:=h.rn _ e
 rw [World.cell?_setCell_other _ _ _ _ (fun e=>by have:=congrArg Addr.block e; simp at this; omega)]
 exact hc j hj
end
structure DvE (w:World) (nx:Bool) (vx:Value) (ny:Bool) (vy:Value) (g9 g10:Nat) (a0 a1 b0 b1:Value) (c:World):Prop where
 bx:Blk c w.heap.size 41 #[.bool nx,vx]
 by_:Blk c (w.heap.size + 1) 41 #[.bool ny,vy]
 bz:Blk c (w.heap.size + 1 + 1) 41 #[.bool false,.slice none 0 0]
 bv:Blk c (w.heap.size + 1 + 1 + 1) 41 #[.bool false,.slice none 0 0]
 b9:Blk c g9 41 #[a0,a1]
 b10:Blk c g10 41 #[b0,b1]
 bel:Below w.heap.size w c
section
variable {w c c':World} {nx ny:Bool} {vx vy a0 a1 b0 b1:Value} {g9 g10:Nat}
theorem DvE.drew (h:DvE w nx vx ny vy g9 g10 a0 a1 b0 b1 c):DvE w nx vx ny vy g9 g10 a0 a1 b0 b1 c.drew:=⟨h.bx,h.by_,h.bz,h.bv,h.b9,h.b10,h.bel.drew⟩
end

structure GcW (w:World) (n1:Bool) (a1:Option Addr) (l1 k1:Nat) (n2:Bool) (a2:Option Addr) (l2 k2:Nat) (A B:Nat) (c:World):Prop where
 bx:Blk c w.heap.size 41 #[.bool n1,.slice a1 l1 k1]
 by_:Blk c (w.heap.size + 1) 41 #[.bool n2,.slice a2 l2 k2]
 bz:Blk c (w.heap.size + 1 + 1) 41 #[.bool false,.slice none 0 0]
 vx:NumV c (.agg #[.bool n1,.slice a1 l1 k1]) (A:Int)
 vy:NumV c (.agg #[.bool n2,.slice a2 l2 k2]) (B:Int)
 bel:Below w.heap.size w c
section
variable {w c c':World} {n1 n2 n3:Bool} {a1 a2 a3:Option Addr} {l1 l2 l3 k1 k2 k3 A B C:Nat}
theorem GcW.drew (h:GcW w n1 a1 l1 k1 n2 a2 l2 k2 A B c):GcW w n1 a1 l1 k1 n2 a2 l2 k2 A B c.drew:=⟨h.bx,h.by_,h.bz,h.vx,h.vy,h.bel.drew⟩
end


def OwnY (w:World) (base:Nat) (v:Value) (l:List UInt8):Prop:=w.ownsRow base 5 1 v l.length (Lib.byteCells l)
theorem OwnY.alloc {w:World} {base:Nat} {v:Value} {ds:List UInt8} (h:OwnY w base v ds) (o:Obj):OwnY (w.alloc o) base v ds:=World.ownsRow.alloc h o


theorem len_add (x y:Int):len (x + y) ≤ max (len x) (len y) + 1:=by
 unfold len
 exact Nat.le_trans (dg_len_mono BB2 (show (x + y).natAbs ≤ x.natAbs + y.natAbs by omega)) (dg_len_add BB2 _ _)
theorem len_mul (x y:Int):len (x * y) ≤ len x + len y:=by
 unfold len
 rw [Int.natAbs_mul]
 exact dg_len_mul BB2 _ _
theorem boxes2 {c w5:World} {t:TypeId} (h5:(c.alloc (.cells #[.bool false,.slice none 0 0] t)).alloc (.cells #[.bool false,.slice none 0 0] t) = w5) (q0 q1 r0 r1:Value) :
  (w5.cell? ⟨c.heap.size,0,none⟩ = some (.bool false) ∧ w5.cell? ⟨c.heap.size,1,none⟩ = some (.slice none 0 0) ∧ w5.cell? ⟨c.heap.size + 1,0,none⟩ = some (.bool false) ∧ w5.cell? ⟨c.heap.size + 1,1,none⟩ = some (.slice none 0 0) ∧ (∀ i,w5.frozen? ⟨c.heap.size,i,none⟩ = false) ∧ ∀ i,w5.frozen? ⟨c.heap.size + 1,i,none⟩ = false) ∧
  ∃ W,(((w5.setCell ⟨c.heap.size,0,none⟩ q0).setCell ⟨c.heap.size,1,none⟩ q1).setCell ⟨c.heap.size + 1,0,none⟩ r0).setCell ⟨c.heap.size + 1,1,none⟩ r1 = W ∧ Blk W c.heap.size t #[q0,q1] ∧ Blk W (c.heap.size + 1) t #[r0,r1] ∧ Below c.heap.size c W:=by
 have hA:Blk w5 c.heap.size t #[.bool false,.slice none 0 0]:=by rw [← h5]; exact (Blk.new c _ _).alloc _
 have hE:Blk w5 (c.heap.size + 1) t #[.bool false,.slice none 0 0]:=by rw [← h5]; exact Blk.new_at _ _ _ (by simp)
 have hb5:Below c.heap.size c w5:=by rw [← h5]; exact ((Below.refl _ _).alloc (Nat.le_refl _) _).alloc (by simp) _
 obtain ⟨a0,a1,af⟩:=hA.c2
 obtain ⟨e0,e1,ef⟩:=hE.c2
 refine ⟨⟨a0,a1,e0,e1,af,ef⟩,_,rfl,?_,?_,?_⟩
 ·exact ((hA.two q0 q1).far (p:=⟨c.heap.size + 1,0,none⟩) (by simp) r0).far (p:=⟨c.heap.size + 1,1,none⟩) (by simp) r1
 ·exact ((hE.far (p:=⟨c.heap.size,0,none⟩) (by simp) q0).far (p:=⟨c.heap.size,1,none⟩) (by simp) q1).two r0 r1
 ·exact (((hb5.setCell (Nat.le_refl _) _).setCell (Nat.le_refl _) _).setCell (by simp) _).setCell (by simp) _
theorem IntV.sign {w:World} {n:Bool} {a:Option Addr} {l k:Nat} {z:Int} (h:IntV w (.agg #[.bool n,.slice a l k]) z):n = decide (z < 0) ∧ l = len z:=by
 obtain ⟨a',c',e,-,-⟩:=h
 simp at e
 exact ⟨e.1,e.2.2.1⟩
theorem IntV.size {w:World} {n:Bool} {a:Option Addr} {l k:Nat} {z:Int} (h:IntV w (.agg #[.bool n,.slice a l k]) z):IntV w (.agg #[.bool false,.slice a l k]) (z.natAbs:Int):=by
 obtain ⟨a',c',e,hf,hd⟩:=h
 simp at e
 obtain ⟨-,rfl,rfl,rfl⟩:=e
 exact ⟨a,k,by simp,by simpa using hf,by simpa using hd⟩

section
variable {w c w1:World} {v:Value} {z:Int}
theorem NumV.drewd (h:NumV w v z):NumV w.drew v z:=h
theorem NumV.allocd (h:NumV w v z) (o:Obj):NumV (w.alloc o) v z:=h.below ((Below.refl _ _).alloc (Nat.le_refl _) _) (Nat.le_refl _)
theorem NumV.later (hb:Below c.heap.size c w1) (h:NumV c v z):NumV w1 v z:=h.below hb (Nat.le_refl _)
end
theorem dm_len {z:Int} (h:len z ≤ 1000000000):Dm z:=by
 have h1:z.natAbs < BB ^ len z:=by
  have h:=val_lt (ds:=dg BB z.natAbs) (b:=BB) (dg_canon BB2 z.natAbs).1
  rwa [dg_val BB2] at h
 rw [BB_pow] at h1
 have h2:=dg_len T2 h1
 unfold Dm dlen
 omega
end Go.Proofs.Ytphjffbldhhdiaa
