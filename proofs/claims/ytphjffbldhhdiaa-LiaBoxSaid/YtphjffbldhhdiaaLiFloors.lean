/- lia.floors: by its contract. -/
import Derived.Test.YtphjffbldhhdiaaLiMake
import Derived.Test.YtphjffbldhhdiaaLiFloor
namespace Go.Proofs.Ytphjffbldhhdiaa
open Go.RowKit

def IntsPost (w:World) (n:Nat) (z:Nat → Int) (e:Ending) (w':World):Prop:=Below w.heap.size w w' ∧ ∃ g,w.heap.size ≤ g ∧ e = .returned (.slice (some ⟨g,0,none⟩) n n) ∧ ∀ c,c < n → IAt w' g (c * 2) (z c)
theorem int_calm (m:Bool) (a:Option Addr) (l k:Nat):∀ u ∈ [Value.bool m,.slice a l k],NoU u:=fun u hu=>by
 simp only [List.mem_cons,List.not_mem_nil,or_false] at hu
 rcases hu with rfl | rfl
 ·exact NoU.bool _
 ·exact NoU.slice _ _ _
set_option maxRecDepth 100000 in
set_option maxHeartbeats 3200000 in
theorem floors_any {g n k0:Nat} {x:Nat → Rat} (w:World) (hx:∀ c,c < n → FAt w g (c * 4) (x c)) (hz:∀ c,c < n → Qz (x c)) (hn:n ≤ 1000) :
  Calls Try.prog 35 #[.slice (some ⟨g,0,none⟩) n k0] w (IntsPost w n fun c=>(x c).floor):=by
 generalize hP:IntsPost w n (fun c=>(x c).floor) = Post
 have HP:=hide hP
 have HX:=hide hx
 have HZ:=hide hz
 clear hP hx hz
 go_enter Try.func35,Try.ntmps35
 go_wp2_with (at_make; refine wpList_make_b (n:=n) (z:=zeroI) rfl _ _ rfl Try.underlying25 infoInt rfl (by decide) (by decide) zeroI_calm rfl rfl (by omega) ?_)
 intro W hG sb
 obtain ⟨G,hGG⟩:∃ G,w.heap.size = G:=⟨_,rfl⟩
 have HG:=hide hG.1
 have h0:∀ c,c < n → IAt W w.heap.size (c * 2) 0:=fun c hc=>hG.int hc
 have HH:=hide h0
 rw [hGG] at HG HH ⊢
 have HGG:=hide hGG
 clear hG h0 hGG
 go_wp2_with fail
 go_loopg [11] n (fun k v11 wr=>∃ j:Nat,j + k = n ∧ v11 = .int .i64 (j:Int) ∧ Below G w wr ∧ Hid (CB wr G 38 (n * 2)) ∧ Hid (∀ c,c < n → IAt wr G (c * 2) (if c < j then (x c).floor else 0)))
 case atStart=>exact ⟨0,by omega,rfl,by rw [← HGG.out]; exact sb,HG,hide (fun c hc=>by rw [if_neg (Nat.not_lt_zero _)]; exact HH.out c hc)⟩
 case round=>
  clear HG HH sb
  obtain ⟨j,hjk,rfl,hB,HC,HI⟩:=hrel
  rcases Nat.eq_zero_or_pos gk with h0 | h0
  ·subst h0
   obtain rfl:j = n:=by omega
   clear hjk
   go_wp2_with fail
   rw [← HP.out]
   exact ⟨by rw [HGG.out]; exact hB,G,by rw [HGG.out]; exact Nat.le_refl _,rfl,fun c hc=>by
    have h:=HI.out c hc
    rw [if_pos hc] at h
    exact h⟩
  ·have hj:j < n:=by omega
   have ej:(j:Int) < (n:Int):=by omega
   obtain ⟨xn,xa,xl,xk,xm,xb,xi,xj,x0,x1,x2,x3,hq⟩:=(HX.out j hj).below hB (Nat.le_of_eq HGG.out)
   have hzj:=HZ.out j hj
   obtain ⟨W2,hW2⟩:∃ W2,wr.alloc (.cells #[.bool xn,.slice xa xl xk,.bool xm,.slice xb xi xj] 71) = W2:=⟨_,rfl⟩
   obtain ⟨gf,hgf⟩:∃ gf,wr.heap.size = gf:=⟨_,rfl⟩
   have bf:Blk W2 gf 71 #[.bool xn,.slice xa xl xk,.bool xm,.slice xb xi xj]:=by rw [← hW2,← hgf]; exact Blk.new _ _ _
   have hb2:Below wr.heap.size wr W2:=by rw [← hW2]; exact (Below.refl _ _).alloc (Nat.le_refl _) _
   have hq2:FracV W2 (.agg #[.bool xn,.slice xa xl xk,.bool xm,.slice xb xi xj]) (x j):=hq.below hb2 (Nat.le_refl _)
   have hGl:=HC.out.lt
   have HW2:=hide hW2
   have HGF:=hide hgf
   clear hW2 hgf hq
   go_upto_region 5 with (fail)
   rw [HW2.out,HGF.out]
   clear HW2 HGF x0 x1 x2 x3
   obtain ⟨x0,x1,x2,x3,-⟩:=bf.c4
   go_wp2_with fail
   refine (FFloor_any W2 hq2 hzj).mono ?_
   rintro e w3 ⟨rI,rfl,hI,hb3⟩
   have hb:=hb2.trans (hb3.mono hb2.size)
   obtain ⟨m,ia,il,ic,hrI⟩:∃ m ia il ic,rI = .agg #[.bool m,.slice ia il ic]:=by
    obtain ⟨ia,ic,e,_⟩:=hI
    exact ⟨_,_,_,_,e⟩
   subst hrI
   have hC3:CB w3 G 38 (n * 2):=HC.out.below hb hGl
   have HI3:Hid (∀ c,c < n → IAt w3 G (c * 2) (if c < j then (x c).floor else 0)):=hide (fun c hc=>(HI.out c hc).below hb (Nat.le_refl _))
   obtain ⟨on,oa,ol,ok,o0,o1,-⟩:=HI3.out j hj
   have f0:=hC3.frozen (j * 2)
   have f1:=hC3.frozen (j * 2 + 1)
   obtain ⟨W4,hW4⟩:∃ W4,putL G w3 (j * 2) [.bool m,.slice ia il ic] = W4:=⟨_,rfl⟩
   have hC4:CB W4 G 38 (n * 2):=by rw [← hW4]; exact hC3.putL (int_calm _ _ _ _)
   have hI4:∀ c,c < n → IAt W4 G (c * 2) (if c < j + 1 then (x c).floor else 0):=fun c hc=>by
    rw [← hW4]
    by_cases he:c = j
    ·subst he
     rw [if_pos (by omega)]
     exact IAt.put_at hC3 (by omega) hI
    ·have h:=(HI3.out c hc).putL hC3 (int_calm m ia il ic) (o:=j * 2) (.inr (by show c * 2 + 2 ≤ j * 2 ∨ j * 2 + 2 ≤ c * 2; omega))
     by_cases hlt:c < j
     ·rw [if_pos hlt] at h; rw [if_pos (by omega)]; exact h
     ·rw [if_neg hlt] at h; rw [if_neg (by omega)]; exact h
   have hB4:Below G w W4:=by rw [← hW4]; exact below_putL (hB.trans (hb.mono (by omega))) (Nat.le_refl _)
   have HC4:=hide hC4
   have HI4:=hide hI4
   simp only [putL] at hW4
   have HW4:=hide hW4
   clear hW4 hC4 hI4 hC3 HC HI HI3 hI hb hb2 hb3
   go_upto_region 6 with (fail)
   rw [HW4.out]
   clear HW4 x0 x1 x2 x3 o0 o1 f0 f1
   go_wp2_with fail
   go_roundg (gk - 1)
   case measure=>omega
   case rel=>exact ⟨j + 1,by omega,by go_num,hB4,HC4,HI4⟩
end Go.Proofs.Ytphjffbldhhdiaa
