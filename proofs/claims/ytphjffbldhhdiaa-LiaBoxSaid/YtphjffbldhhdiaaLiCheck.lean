/- lia's look at integers: Solve$1, IndexFunc, ContainsFunc. -/
import Derived.Test.YtphjffbldhhdiaaLiRaw
namespace Go.Proofs.Ytphjffbldhhdiaa
open Go.RowKit

set_option maxRecDepth 100000 in
set_option maxHeartbeats 1600000 in
theorem iwrong_any (R:Raw) (w:World) (hR:RawOk w R) {r:Bool} (hr:(!R.ok) = r) :
  Calls Try.prog 23 #[.agg #[.bool R.neg,.slice R.at_ R.ds.length R.cap]] w fun e w'=>e = .returned (.bool r) ∧ Below w.heap.size w w':=by
 obtain ⟨W,hW⟩:∃ W,w.alloc (.cells #[.bool R.neg,.slice R.at_ R.ds.length R.cap] 38) = W:=⟨_,rfl⟩
 have bx:Blk W w.heap.size 38 #[.bool R.neg,.slice R.at_ R.ds.length R.cap]:=by rw [← hW]; exact Blk.new w _ _
 have sb:Below w.heap.size w W:=by rw [← hW]; exact (Below.refl w.heap.size w).alloc (Nat.le_refl _) _
 have hR1:=hR.below sb (Nat.le_refl _)
 have HR:=hide hr
 have HW:=hide hW
 clear hW hr
 go_enter Try.func23,Try.ntmps23
 go_upto_region 1 with (fail)
 rw [HW.out]
 clear HW
 obtain ⟨x0,x1,-⟩:=bx.c2
 go_wp2_with fail
 refine (Right_any R.neg R.at_ R.cap R.ds W hR1.dig hR1.max).mono ?_
 rintro e w1 ⟨rfl,hb1⟩
 have sb1:=sb.trans (hb1.mono sb.size)
 have HR2:Hid ((!rightB R.neg R.ds) = r):=HR
 generalize rightB R.neg R.ds = f at *
 obtain rfl:=HR2.out
 clear HR HR2 x0 x1
 go_wp2_with fail
 go_ret
 exact ⟨rfl,sb1⟩

set_option maxRecDepth 100000 in
set_option maxHeartbeats 3200000 in
theorem iindex_any (a:Option Addr) (cap:Nat) (xs:List Raw) (w:World) (hx:IListAt w a xs) (hl:xs.length ≤ 1000) :
  Calls Try.prog 48 #[.slice a xs.length cap,.func (.func 23) #[] #[]] w fun e w'=>(∃ k:Int,e = .returned (.int .i64 k) ∧ (0 ≤ k ↔ xs.all Raw.ok = false)) ∧ Below w.heap.size w w':=by
 generalize hP:(fun (e:Ending) (w':World)=>(∃ k:Int,e = .returned (.int .i64 k) ∧ (0 ≤ k ↔ xs.all Raw.ok = false)) ∧ Below w.heap.size w w') = Post
 have HP:=hide hP
 clear hP
 go_enter Try.func48,Try.ntmps48
 go_wp2_with fail
 go_loopg [8] xs.length (fun k v8 wr=>∃ j:Nat,j + k = xs.length ∧ v8 = .int .i64 (j:Int) ∧ Below w.heap.size w wr ∧ Hid (∀ i (h:i < xs.length),i < j → (xs[i]).ok = true))
 case atStart=>exact ⟨0,by omega,rfl,Below.refl _ _,hide (fun i _ h=>absurd h (Nat.not_lt_zero _))⟩
 case round=>
  obtain ⟨j,hjk,rfl,hB,HF⟩:=hrel
  rcases Nat.eq_zero_or_pos gk with h0 | h0
  ·subst h0
   have hj:j = xs.length:=by omega
   subst hj
   go_wp2_with fail
   rw [← HP.out]
   refine ⟨⟨-1,rfl,?_⟩,hB⟩
   have h1:xs.all Raw.ok = true:=List.all_eq_true.2 (fun x hx=>by
    obtain ⟨i,hi,rfl⟩:=List.mem_iff_getElem.1 hx
    exact HF.out i hi hi)
   rw [h1]
   constructor
   ·intro h; omega
   ·intro h; cases h
  ·have hj:j < xs.length:=by omega
   obtain ⟨b,o,rfl,hr⟩:=hx (by omega)
   obtain ⟨x0,x1,hok⟩:=(hr j hj).below hB (Nat.le_refl _)
   have HX:Hid (xs[j] = xs[j]):=hide rfl
   generalize hR:xs[j] = R at *
   have HR:=hide hR
   have ej:(j:Int) < (xs.length:Int):=by omega
   replace hr:=hide hr
   clear hR HX
   cases hf:R.ok with
   | false=>
    have HFF:=hide hf
    have hr2:(!R.ok) = true:=by rw [hf]; rfl
    clear hf
    go_wp2_with fail
    refine (iwrong_any R wr hok hr2).mono ?_
    rintro e w2 ⟨rfl,hb2⟩
    clear hr2 x0 x1
    have hB2:=hB.trans (hb2.mono hB.size)
    go_wp2_with fail
    rw [← HP.out]
    refine ⟨⟨(j:Int),rfl,?_⟩,hB2⟩
    constructor
    ·intro _
     rw [List.all_eq_false]
     exact ⟨R,by rw [← HR.out]; exact List.getElem_mem hj,by rw [HFF.out]; decide⟩
    ·intro _; omega
   | true=>
    have HFF:=hide hf
    have hr2:(!R.ok) = false:=by rw [hf]; rfl
    clear hf
    go_wp2_with fail
    refine (iwrong_any R wr hok hr2).mono ?_
    rintro e w2 ⟨rfl,hb2⟩
    clear hr2 x0 x1
    have hB2:=hB.trans (hb2.mono hB.size)
    go_wp2_with fail
    go_roundg (gk - 1)
    case measure=>omega
    case rel=>
     exact ⟨j + 1,by omega,by go_num,hB2,hide (fun i h hi=>by
      rcases Nat.lt_or_ge i j with h1 | h1
      ·exact HF.out i h h1
      ·have h2:i = j:=by omega
       subst h2
       rw [HR.out]; exact HFF.out)⟩

set_option maxRecDepth 100000 in
set_option maxHeartbeats 1600000 in
theorem icontains_any (a:Option Addr) (cap:Nat) (xs:List Raw) (w:World) (hx:IListAt w a xs) (hl:xs.length ≤ 1000) {r:Bool} (hr:(!xs.all Raw.ok) = r) :
  Calls Try.prog 25 #[.slice a xs.length cap,.func (.func 23) #[] #[]] w fun e w'=>e = .returned (.bool r) ∧ Below w.heap.size w w':=by
 have HR:=hide hr
 clear hr
 go_enter Try.func25,Try.ntmps25
 go_wp2_with fail
 refine (iindex_any a cap xs w hx hl).mono ?_
 rintro e w1 ⟨⟨k,rfl,hk⟩,hb1⟩
 have hd:decide (0 ≤ k) = r:=by
  rw [← HR.out]
  cases h:xs.all Raw.ok with
  | false=>exact decide_eq_true (hk.2 h)
  | true=>exact decide_eq_false (fun e=>by have:=hk.1 e; rw [h] at this; cases this)
 clear hk HR
 cases r with
 | false=>
  have e1:=of_decide_eq_false hd
  go_wp2_with fail
  go_ret
  exact ⟨rfl,hb1⟩
 | true=>
  have e1:=of_decide_eq_true hd
  go_wp2_with fail
  go_ret
  exact ⟨rfl,hb1⟩
end Go.Proofs.Ytphjffbldhhdiaa
