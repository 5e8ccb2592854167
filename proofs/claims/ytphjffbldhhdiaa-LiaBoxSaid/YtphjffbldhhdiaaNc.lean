/- Texts in one file: RSmall, DecLaw, Fmt, Builder, Text, Lead, Small, Three, Parse, RuleLaw, NumLaw. -/
import Derived.Test.YtphjffbldhhdiaaNa
import Derived.Lib.Walk
import Derived.Lib.Slices
import Derived.Test.YtphjffbldhhdiaaNb
import Derived.Test.YtphjffbldhhdiaaRows
import Derived.WalkKit
import Derived.ProofKit
import Derived.OpenShut
import Derived.ShutString
import Derived.ChangeOld
import Derived.ChangeMaps5
import Derived.ChangeArms
import Derived.ChangeSlices
import Derived.Below
import Derived.Carry
import Derived.LaidMore
import Derived.LaidSub
import Derived.Lay
import Derived.SevenTiedAt
import Derived.Stop.Joined
import Derived.HandedShaped
import Derived.Shelf.Vars
import Derived.Lib.LaidTab
namespace Go.Proofs.Ytphjffbldhhdiaa
open Go.RowKit

set_option maxHeartbeats 800000 in
theorem RRight_any (neg:Bool) (a:Option Addr) (cap:Nat) (ds:List Nat) (w:World) (hd:Dg .u32 w a ds) (hn:ds.length ≤ 9223372036854775807) :
  Calls Try.prog 13 #[.agg #[.bool neg,.slice a ds.length cap]] w fun e w'=>e = .returned (.bool (rightB neg ds)) ∧ Below w.heap.size w w':=by
 generalize hr:rightB neg ds = r
 have HR:=hide hr
 clear hr
 have hb0:Below w.heap.size w (w.alloc (.cells #[.bool neg,.slice a ds.length cap] 38)):=(Below.refl _ _).alloc (Nat.le_refl _) _
 have hX:=Blk.new w 38 #[.bool neg,.slice a ds.length cap]
 have hd0:=hd.below hb0 (Nat.le_refl _)
 go_enter Try.func13,Try.ntmps13
 go_wp2_with fail
 generalize hW:w.alloc (.cells #[.bool neg,.slice a ds.length cap] 38) = W at hb0 hX hd0 ⊢
 clear hW
 obtain ⟨c0,c1,-⟩:=hX.c2
 go_loop [3] (fun v=>∃ j:Nat,j ≤ ds.length ∧ v = .int .i64 (j:Int) ∧ (ds.take j).all (fun d=>decide (d < BB)) = true) (fun v=>ds.length - (intOf v).toNat)
 case atStart=>exact ⟨0,Nat.zero_le _,rfl,by simp⟩
 case round=>
  obtain ⟨j,hj,rfl,hall⟩:=hrel
  have HA:=hide hall
  clear hall
  rcases Nat.lt_or_ge j ds.length with hlt | hge
  ·obtain ⟨b,off,rfl,hc,_⟩:=hd0.at hlt
   have hsn:=List.take_succ_eq_append_getElem hlt
   have hmem:ds[j] ∈ ds:=List.getElem_mem hlt
   by_cases hbig:ds[j] < BB
   ·have hlt2:¬ (999999999:Int) < (ds[j]:Int):=by have:=BB_eq; omega
    have HN:Hid ((ds.take (j + 1)).all (fun d=>decide (d < BB)) = true):=hide (by rw [hsn,List.all_append,HA.out]; simp [hbig])
    generalize ds[j] = d at hc hlt2
    clear hsn hmem hbig
    go_wp2_with fail
    go_round
    case rel=>exact ⟨j + 1,by omega,by go_num,HN.out⟩
    case measure=>simp [intOf]; omega
   ·have hge2:(999999999:Int) < (ds[j]:Int):=by have:=BB_eq; omega
    have hf:rightB neg ds = false:=by
     unfold rightB
     rw [if_neg (by intro h; rw [List.isEmpty_iff.1 h] at hlt; simp at hlt)]
     have:ds.all (fun d=>decide (d < BB)) = false:=by
      rw [List.all_eq_false]
      exact ⟨_,hmem,by simpa using hbig⟩
     rw [this]; rfl
    have HF:=hide hf
    generalize ds[j] = d at hc hge2
    clear hsn hmem hbig hf
    go_wp2_with fail
    go_ret
    exact ⟨by rw [← HR.out,HF.out]; rfl,hb0⟩
  ·obtain rfl:j = ds.length:=by omega
   rcases Nat.eq_zero_or_pos ds.length with h0 | h0
   ·obtain rfl:=List.eq_nil_of_length_eq_zero h0
    go_wp2_with fail
    go_ret
    exact ⟨by rw [← HR.out]; rfl,hb0⟩
   ·have e0:((ds.length:Int) == 0) = false:=beq_eq_false_iff_ne.2 (by omega)
    obtain ⟨b,off,rfl,hc,_⟩:=hd0.at (i:=ds.length - 1) (by omega)
    have hl:ds.getLastD 1 = ds[ds.length - 1]:=by
     rcases snoc_cases ds with rfl | ⟨r,d,rfl⟩
     ·simp at h0
     ·simp
    have hv:rightB neg ds = !(ds[ds.length - 1] == 0):=by
     unfold rightB
     rw [if_neg (by intro h; rw [List.isEmpty_iff.1 h] at h0; simp at h0)]
     have h:=HA.out
     rw [List.take_length] at h
     rw [h,hl]; rfl
    have HV:=hide hv
    generalize ds[ds.length - 1] = d at hc HV
    clear hl hv
    cases hz:(d == 0) with
    | true=>
     obtain rfl:d = 0:=by simpa using hz
     go_wp2_with fail
     go_ret
     exact ⟨by rw [← HR.out,HV.out]; rfl,hb0⟩
    | false=>
     have e1:((d:Int) != 0) = true:=by simp at hz ⊢; omega
     have e2:((d:Int) == 0) = false:=by simp at hz ⊢; omega
     go_wp2_with fail
     go_ret
     exact ⟨by rw [← HR.out,HV.out,hz]; rfl,hb0⟩

set_option maxRecDepth 100000 in
set_option maxHeartbeats 1600000 in
theorem Same_raw (n m:Bool) (a b:Option Addr) (ca cb:Nat) (x y:List Nat) (w:World) (hx:Dg .u32 w a x) (hy:Dg .u32 w b y) (hl:x.length ≤ 1099511627776) :
  Calls Try.prog 20 #[.agg #[.bool n,.slice a x.length ca],.agg #[.bool m,.slice b y.length cb]] w fun e w'=>e = .returned (.bool (decide (n = m ∧ x = y))) ∧ Below w.heap.size w w':=by
 generalize hr:decide (n = m ∧ x = y) = r
 have HR:=hide hr
 clear hr
 have hX0:=Blk.new w 38 #[.bool n,.slice a x.length ca]
 have hX:=hX0.alloc (.cells #[.bool m,.slice b y.length cb] 38)
 have hY:=Blk.new (w.alloc (.cells #[.bool n,.slice a x.length ca] 38)) 38 #[.bool m,.slice b y.length cb]
 have hb0:Below w.heap.size w ((w.alloc (.cells #[.bool n,.slice a x.length ca] 38)).alloc (.cells #[.bool m,.slice b y.length cb] 38)):=((Below.refl _ _).alloc (Nat.le_refl _) _).alloc (by simp) _
 clear hX0
 have hx0:=hx.below hb0 (Nat.le_refl _)
 have hy0:=hy.below hb0 (Nat.le_refl _)
 by_cases hnm:n = m
 ·subst hnm
  by_cases hlen:x.length = y.length
  ·have e0:((x.length:Int) != (y.length:Int)) = false:=by simp; omega
   have e0':((x.length:Int) == (y.length:Int)) = true:=by simp; omega
   have HL:=hide hlen
   clear hlen
   go_enter Try.func20,Try.ntmps20
   have hsz:(w.alloc (.cells #[.bool n,.slice a x.length ca] 38)).heap.size = w.heap.size + 1:=by simp
   rw [hsz] at hY
   obtain ⟨c0,c1,cf⟩:=hX.c2
   obtain ⟨d0,d1,df⟩:=hY.c2
   go_wp2_with fail
   generalize (w.alloc (.cells #[.bool n,.slice a x.length ca] 38)).alloc (.cells #[.bool n,.slice b y.length cb] 38) = W at *
   go_loopg [5] x.length (fun k v wr=>∃ (j q:Nat),j + k = x.length ∧ v = .int .i64 (j:Int) ∧ Hid (x.take j = y.take j) ∧ wr = W.drewN q)
   case atStart=>exact ⟨0,0,by omega,rfl,hide (by simp),rfl⟩
   case round=>
    obtain ⟨j,q,hjk,rfl,HT,rfl⟩:=hrel
    rcases Nat.eq_zero_or_pos gk with h0 | h0
    ·subst h0
     obtain rfl:j = x.length:=by omega
     have HV:Hid (decide (True ∧ x = y) = true):=hide (by
      have h:=HT.out
      rw [List.take_length,HL.out,List.take_length] at h
      simp [h])
     go_wp2_with fail
     go_ret
     exact ⟨by rw [← HR.out,HV.out]; rfl,below_drewN hb0 _⟩
    ·have hj1:j < x.length:=by omega
     have hj2:j < y.length:=by have:=HL.out; omega
     obtain ⟨p,po,rfl,hc,_⟩:=hx0.at hj1
     obtain ⟨p',po',rfl,hd,_⟩:=hy0.at hj2
     have HU1:Hid (x[j] = y[j] → x.take (j + 1) = y.take (j + 1)):=hide (fun h=>by
      rw [List.take_succ_eq_append_getElem hj1,List.take_succ_eq_append_getElem hj2,HT.out,h])
     have HU2:Hid (x[j] ≠ y[j] → decide (True ∧ x = y) = false):=hide (fun h=>by
      simp
      rintro rfl
      exact h rfl)
     generalize x[j] = c at hc HU1 HU2
     generalize y[j] = d at hd HU1 HU2
     by_cases hcd:c = d
     ·subst hcd
      have HV:=hide (HU1.out rfl)
      have t1:((c:Int) != (c:Int)) = false:=by simp
      clear HU1 HU2
      go_wp2_with fail
      go_quiet (fail)
      go_wp2_with fail
      go_roundg (gk - 1)
      case measure=>omega
      case rel=>exact ⟨j + 1,_,by omega,by go_num,HV,rfl⟩
     ·have HV:=hide (HU2.out hcd)
      have t1:((c:Int) != (d:Int)) = true:=by simp; omega
      have t1':((c:Int) == (d:Int)) = false:=by simp; omega
      clear HU1 HU2
      go_wp2_with fail
      go_quiet (fail)
      go_wp2_with fail
      go_ret
      refine ⟨by rw [← HR.out,HV.out]; rfl,?_⟩
      obtain ⟨k,hk⟩:=@drew2 W q _
      rw [hk]
      exact below_drewN hb0 _
  ·have e0:((x.length:Int) != (y.length:Int)) = true:=by simp; omega
   have HV:Hid (decide (n = n ∧ x = y) = false):=hide (by simp; intro h; rw [h] at hlen; exact hlen rfl)
   go_enter Try.func20,Try.ntmps20
   go_wp2_with fail
   go_ret
   exact ⟨by rw [← HR.out,HV.out]; rfl,hb0⟩
 ·have HV:Hid (decide (n = m ∧ x = y) = false):=hide (by simp; intro h; exact absurd h hnm)
  have e0:(n != m) = true:=by cases n <;> cases m <;> simp at hnm ⊢
  go_enter Try.func20,Try.ntmps20
  go_wp2_with fail
  go_ret
  exact ⟨by rw [← HR.out,HV.out]; rfl,hb0⟩

theorem Same_any {x y:Int} {u v:Value} (w:World) (hx:IntV w u x) (hy:IntV w v y) (hn:Sm x) :
  Calls Try.prog 20 #[u,v] w fun e w'=>e = .returned (.bool (decide (x = y))) ∧ Below w.heap.size w w':=by
 obtain ⟨a,ca,rfl,_,hd⟩:=hx
 obtain ⟨b,cb,rfl,_,he⟩:=hy
 have e:decide (decide (x < 0) = decide (y < 0) ∧ dg BB x.natAbs = dg BB y.natAbs) = decide (x = y):=by
  have h:(decide (x < 0) = decide (y < 0) ∧ dg BB x.natAbs = dg BB y.natAbs) ↔ x = y:=by
   constructor
   ·rintro ⟨h1,h2⟩
    have h3:x.natAbs = y.natAbs:=by rw [← dg_val BB2 x.natAbs,h2,dg_val BB2]
    have h4:x < 0 ↔ y < 0:=by simpa using h1
    omega
   ·rintro rfl; exact ⟨rfl,rfl⟩
  exact decide_eq_decide.2 h
 rw [← e]
 exact Same_raw _ _ a b ca cb _ _ w hd he hn



section
variable {W1 wr w':World} {l:List UInt8}
end

theorem sm_small {z:Int} (h:z.natAbs < BB ^ 10):Sm z:=by
 have:=dg_len BB2 h
 unfold Sm len; omega

structure Raw where
 neg:Bool
 at_:Option Addr
 cap:Nat
 ds:List Nat
def Raw.odd (r:Raw):Bool:=decide (10 < r.ds.length) || !rightB r.neg r.ds


def Raw.val (r:Raw):Value:=.agg #[.bool r.neg,.slice r.at_ r.ds.length r.cap]
structure RawOk (w:World) (r:Raw):Prop where
 dig:Dg .u32 w r.at_ r.ds
 fit:Fit r.at_ r.ds.length r.cap
 max:r.ds.length ≤ 9223372036854775807
theorem RawOk.int {w:World} {r:Raw} (h:RawOk w r) (ho:r.odd = false):∃ z:Int,IntV w r.val z ∧ len z ≤ 10:=by
 obtain ⟨n,a,c,ds⟩:=r
 simp only [Raw.odd,Bool.or_eq_false_iff,Bool.not_eq_false'] at ho
 obtain ⟨z,h1,h2⟩:=rightB_val ho.2
 subst h1 h2
 exact ⟨z,⟨a,c,rfl,h.fit,h.dig⟩,by simpa [len] using ho.1⟩
theorem RawOk.below {w w':World} {B:Nat} {r:Raw} (h:RawOk w r) (hb:Below B w w') (hB:w.heap.size ≤ B):RawOk w' r:=⟨h.dig.below hb hB,h.fit,h.max⟩
theorem sm10 {z:Int} (h:len z ≤ 10):Sm z:=by unfold Sm; omega
def Three (w:World) (B:Nat) (x y z:Raw) (c:World):Prop:=
 Blk c B 38 #[.bool x.neg,.slice x.at_ x.ds.length x.cap] ∧ Blk c (B + 1) 38 #[.bool y.neg,.slice y.at_ y.ds.length y.cap] ∧ Blk c (B + 2) 38 #[.bool z.neg,.slice z.at_ z.ds.length z.cap] ∧ Below w.heap.size w c
theorem Three.grow {w c c':World} {B:Nat} {x y z:Raw} (h:Three w B x y z c) (hb:Below c.heap.size c c'):Three w B x y z c':=
 ⟨h.1.below hb h.1.lt,h.2.1.below hb h.2.1.lt,h.2.2.1.below hb h.2.2.1.lt,h.2.2.2.trans (hb.mono h.2.2.2.size)⟩


section
variable {w c:World} {x y:Int} {u v:Value}
theorem Mul_at (hx:IntV w u x) (hy:IntV w v y) (hn:Sm x) (hm:Sm y) (hB:Below w.heap.size w c):Calls Try.prog 18 #[u,v] c (IntPost c (x * y)):=Mul_any c (hx.below hB (Nat.le_refl _)) (hy.below hB (Nat.le_refl _)) hn hm
theorem Cmp_at (hx:IntV w u x) (hy:IntV w v y) (hn:Sm x) (hm:Sm y) (hB:Below w.heap.size w c) {C:Int} (hC:ordZ x y = C):Calls Try.prog 81 #[u,v] c fun e w'=>e = .returned (.int .i64 C) ∧ Below c.heap.size c w':=by
 subst hC
 exact (Cmp_any c (hx.below hB (Nat.le_refl _)) (hy.below hB (Nat.le_refl _)) hn hm)
end


theorem len_neg (x:Int):len (-x) = len x:=by unfold len; rw [Int.natAbs_neg]
theorem len_le {x y:Int} (h:x.natAbs ≤ y.natAbs):len x ≤ len y:=dg_len_mono BB2 h
end Go.Proofs.Ytphjffbldhhdiaa

namespace Go.Proofs.Ytphjffbldhhdiaa
open Go.ChangeShapes Go.WideShapes Go.ChangeAt Go.RowKit

theorem own:ownKnob Try.prog.godebug = none:=by kernel_rfl
theorem laidOut:laidOutB Try.prog = true:=by kernel_rfl

theorem spot_none {w:World} {x:Addr} {v:Value} (h:w.cell? x = some v):x = ⟨x.block,x.off,none⟩:=by
 obtain ⟨b,o,s⟩:=x
 cases s with
 | none=>rfl
 | some y=>
  unfold World.cell? at h
  split at h
  ·simp at h
  ·cases h

set_option maxRecDepth 100000 in
theorem open_digits {H:Type} {enc:TypeId × Value → H} {W:World} {n:Nat} {v:Value} {y:DataW H × List MemPlace} (h:DataW.trod enc Try.prog W 0 (fun _=>true) true n 36 [v] = some y) :
  ∃ (a:Option Addr) (cap:Nat) (ds:List Nat),v = .slice a ds.length cap ∧ Dg .u32 W a ds ∧ Fit a ds.length cap ∧ ds.length ≤ 9223372036854775807:=by
 rcases open_ints Try.underlying36 Try.underlying85 (by kernel_rfl) h with ⟨hcs,_⟩ | ⟨x,l,c,zs,hcs,_,hl,hm,hz,_,hcell,hwz⟩
 ·simp at hcs
  subst hcs
  exact ⟨none,0,[],rfl,Dg.nil _ _,⟨Nat.le_refl _,fun _=>rfl⟩,by simp⟩
 ·simp at hcs
  subst hcs
  simp only [if_true] at hz
  have hlen:((zs.take l).map Int.toNat).length = l:=by simp; omega
  refine ⟨some x,c,(zs.take l).map Int.toNat,by rw [hlen],?_,⟨by rw [hlen]; exact hl,fun h=>by cases h⟩,by rw [hlen]; unfold maxLen at hm; omega⟩
  intro hn
  rw [hlen] at hn
  have h0:=hcell 0 (by omega)
  have hx:x = ⟨x.block,x.off,none⟩:=spot_none (by simpa [Addr.add] using h0)
  refine ⟨x.block,x.off,by rw [← hx],fun i hi=>?_⟩
  rw [hlen] at hi
  have h1:=hcell i (by omega)
  rw [hx,add_plain] at h1
  rw [h1]
  have h2:zs.getD i 0 = zs[i]'(by omega):=by simp [List.getD,List.getElem?_eq_getElem (show i < zs.length by omega)]
  have h3:0 ≤ zs[i]'(by omega):=by
   have:=hwz _ (List.getElem_mem (show i < zs.length by omega))
   have hmin:IntKind.u32.min = 0:=rfl
   simp [Lit.wf,hmin] at this
   omega
  rw [h2]
  simp
  omega

end Go.Proofs.Ytphjffbldhhdiaa
