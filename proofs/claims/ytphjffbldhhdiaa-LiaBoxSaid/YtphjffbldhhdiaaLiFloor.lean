/- lia's look at fractions: Solve$2, IndexFunc; floors. -/
import Derived.Test.YtphjffbldhhdiaaLiRows
import Derived.Test.YtphjffbldhhdiaaLiSize
namespace Go.Proofs.Ytphjffbldhhdiaa
open Go.RowKit

set_option maxRecDepth 100000 in
set_option maxHeartbeats 1600000 in
theorem broken_any {q:Rat} {n m:Bool} {a b:Option Addr} {l k i j:Nat} (w:World) (hx:FracV w (.agg #[.bool n,.slice a l k,.bool m,.slice b i j]) q) (hq:Qz q) {r:Bool} (hr:(!decide (q.den = 1)) = r) :
  Calls Try.prog 32 #[.agg #[.bool n,.slice a l k,.bool m,.slice b i j]] w fun e w'=>e = .returned (.bool r) ∧ Below w.heap.size w w':=by
 obtain ⟨W,hW⟩:∃ W,w.alloc (.cells #[.bool n,.slice a l k,.bool m,.slice b i j] 71) = W:=⟨_,rfl⟩
 have bx:Blk W w.heap.size 71 #[.bool n,.slice a l k,.bool m,.slice b i j]:=by rw [← hW]; exact Blk.new w _ _
 have sb:Below w.heap.size w W:=by rw [← hW]; exact (Below.refl w.heap.size w).alloc (Nat.le_refl _) _
 have hx1:FracV W (.agg #[.bool n,.slice a l k,.bool m,.slice b i j]) q:=hx.below sb (Nat.le_refl _)
 have HR:=hide hr
 have HW:=hide hW
 clear hW hr
 go_enter Try.func32,Try.ntmps32
 go_upto_region 1 with (fail)
 rw [HW.out]
 clear HW
 obtain ⟨x0,x1,x2,x3,-⟩:=bx.c4
 go_wp2_with fail
 refine (FFloor_any W hx1 hq).mono ?_
 rintro e w1 ⟨rI,rfl,hI,hb1⟩
 have sb1:=sb.trans (hb1.mono sb.size)
 obtain ⟨ia,ic,rfl,-,-⟩:=hI
 generalize decide (q.floor < 0) = fn at *
 generalize (dg BB q.floor.natAbs).length = fl at *
 have sb2:Below w.heap.size w (w1.alloc (.cells #[.bool fn,.slice ia fl ic] 38)):=sb1.alloc sb1.size _
 have HR2:Hid ((!decide (q.den = 1)) = r):=HR
 generalize decide (q.den = 1) = f at *
 obtain rfl:=HR2.out
 clear HR HR2 x0 x1 x2 x3
 go_wp2_with fail
 go_ret
 exact ⟨rfl,sb2⟩

def BrokePost (w:World) (n:Nat) (x:Nat → Rat) (e:Ending) (w':World):Prop:=Below w.heap.size w w' ∧ ((∃ v:Nat,v < n ∧ (x v).den ≠ 1 ∧ (∀ c,c < v → (x c).den = 1) ∧ e = .returned (.int .i64 (v:Int))) ∨ ((∀ c,c < n → (x c).den = 1) ∧ e = .returned (.int .i64 (-1))))
set_option maxRecDepth 100000 in
set_option maxHeartbeats 3200000 in
theorem first_any {g n k0:Nat} {x:Nat → Rat} (w:World) (hx:∀ c,c < n → FAt w g (c * 4) (x c)) (hz:∀ c,c < n → Qz (x c)) (hn:n ≤ 1000) :
  Calls Try.prog 34 #[.slice (some ⟨g,0,none⟩) n k0,.func (.func 32) #[] #[]] w (BrokePost w n x):=by
 generalize hP:BrokePost w n x = Post
 have HP:=hide hP
 have HX:=hide hx
 have HZ:=hide hz
 clear hP hx hz
 go_enter Try.func34,Try.ntmps34
 go_wp2_with fail
 go_loopg [8] n (fun k v8 wr=>∃ j:Nat,j + k = n ∧ v8 = .int .i64 (j:Int) ∧ Below w.heap.size w wr ∧ Hid (∀ i,i < j → (x i).den = 1))
 case atStart=>exact ⟨0,by omega,rfl,Below.refl _ _,hide (fun i h=>absurd h (Nat.not_lt_zero _))⟩
 case round=>
  obtain ⟨j,hjk,rfl,hB,HF⟩:=hrel
  rcases Nat.eq_zero_or_pos gk with h0 | h0
  ·subst h0
   have hj:j = n:=by omega
   subst hj
   go_wp2_with fail
   rw [← HP.out]
   exact ⟨hB,.inr ⟨HF.out,rfl⟩⟩
  ·have hj:j < n:=by omega
   have ej:(j:Int) < (n:Int):=by omega
   obtain ⟨xn,xa,xl,xk,xm,xb,xi,xj,x0,x1,x2,x3,hq⟩:=(HX.out j hj).below hB (Nat.le_refl _)
   have hzj:=HZ.out j hj
   cases hf:decide ((x j).den = 1) with
   | false=>
    have HFF:=hide hf
    have hr2:(!decide ((x j).den = 1)) = true:=by rw [hf]; rfl
    clear hf
    go_wp2_with fail
    refine (broken_any wr hq hzj hr2).mono ?_
    rintro e w2 ⟨rfl,hb2⟩
    clear hr2 x0 x1 x2 x3
    have hB2:=hB.trans (hb2.mono hB.size)
    go_wp2_with fail
    rw [← HP.out]
    exact ⟨hB2,.inl ⟨j,hj,of_decide_eq_false HFF.out,HF.out,rfl⟩⟩
   | true=>
    have HFF:=hide hf
    have hr2:(!decide ((x j).den = 1)) = false:=by rw [hf]; rfl
    clear hf
    go_wp2_with fail
    refine (broken_any wr hq hzj hr2).mono ?_
    rintro e w2 ⟨rfl,hb2⟩
    clear hr2 x0 x1 x2 x3
    have hB2:=hB.trans (hb2.mono hB.size)
    go_wp2_with fail
    go_roundg (gk - 1)
    case measure=>omega
    case rel=>
     exact ⟨j + 1,by omega,by go_num,hB2,hide (fun i hi=>by
      rcases Nat.lt_or_ge i j with h1 | h1
      ·exact HF.out i h1
      ·obtain rfl:i = j:=by omega
       exact of_decide_eq_true HFF.out)⟩
end Go.Proofs.Ytphjffbldhhdiaa
