/- lia's blame: by its contract. -/
import Derived.Test.YtphjffbldhhdiaaLiSt
namespace Go.Proofs.Ytphjffbldhhdiaa
open Go.RowKit

theorem bumped_next {y:Nat → Rat} {need:Nat → Nat} {j:Nat}:bumped (j + 1) y need = if y j ≠ 0 then put (bumped j y need) j (need j + 1) else bumped j y need:=by
 funext i
 unfold bumped
 by_cases h0:y j ≠ 0
 ·rw [if_pos h0]
  by_cases he:i = j
  ·subst he
   rw [put_at,if_pos ⟨Nat.lt_succ_self _,h0⟩]
  ·rw [put_else _ _ he]
   by_cases h1:i < j ∧ y i ≠ 0
   ·rw [if_pos h1,if_pos ⟨by omega,h1.2⟩]
   ·rw [if_neg h1,if_neg (fun h=>h1 ⟨by omega,h.2⟩)]
 ·rw [if_neg h0]
  by_cases h1:i < j ∧ y i ≠ 0
  ·rw [if_pos h1,if_pos ⟨by omega,h1.2⟩]
  ·rw [if_neg h1,if_neg (fun h=>by
    by_cases he:i = j
    ·subst he; exact h0 h.2
    ·exact h1 ⟨by omega,h.2⟩)]
theorem bumped_at {y:Nat → Rat} {need:Nat → Nat} {j:Nat}:bumped j y need j = need j:=by
 unfold bumped
 rw [if_neg (fun h=>Nat.lt_irrefl _ h.1)]
theorem ordQ_nz {q:Rat}:ordQ q 0 ≠ 0 ↔ q ≠ 0:=by
 rw [ordQ_eq]
 constructor
 ·intro h e
  subst e
  simp at h
 ·intro h
  split
  ·decide
  ·split
   ·decide
   ·exact absurd (by grind) h
def BlamePost (N:Nat) (w:World) (S:ISys) (st:LS) (L:LSp) (y:Nat → Rat) (e:Ending) (w':World):Prop:=e = .returned (.tuple #[]) ∧ Below N w w' ∧ LiW N w' S { st with need:=bumped S.m y st.need } L
set_option maxRecDepth 100000 in
set_option maxHeartbeats 3200000 in
theorem blame_any {N:Nat} {S:ISys} {st:LS} {L:LSp} {gy m' ky:Nat} {y:Nat → Rat} (w:World) (h:LiW N w S st L) (hN:N ≤ w.heap.size) (hy:∀ i,i < S.m → FAt w gy (i * 4) (y i)) (hz:∀ i,i < S.m → Qz (y i)) (hm:S.m ≤ m') (hsm:m' ≤ 1000) (hk:∀ i,i < S.m → st.need i ≤ 1000000) (hgy:gy ≠ L.gn) :
  Calls Try.prog 29 #[.pointer (some ⟨L.p,0,none⟩),.slice (some ⟨gy,0,none⟩) m' ky] w (BlamePost N w S st L y):=by
 generalize hP:BlamePost N w S st L y = Post
 have HP:=hide hP
 have H:=hide h
 have HY:=hide hy
 have HZ:=hide hz
 have HK:=hide hk
 have p5:w.cell? ⟨L.p,5,none⟩ = some (.slice (some ⟨L.gn,0,none⟩) S.m S.m):=h.blk.cell 5
 clear hP h hy hz hk
 go_enter Try.func29,Try.ntmps29
 go_wp2_with fail
 clear p5
 go_loopg [10] S.m (fun k v10 wr=>∃ j:Nat,j + k = S.m ∧ v10 = .int .i64 (j:Int) ∧ Below N w wr ∧ Hid (LiW N wr S { st with need:=bumped j y st.need } L) ∧ Hid (∀ i,i < S.m → FAt wr gy (i * 4) (y i)))
 case atStart=>exact ⟨0,by omega,rfl,Below.refl _ _,hide (by
  have e:bumped 0 y st.need = st.need:=funext fun i=>if_neg (fun h=>Nat.not_lt_zero _ h.1)
  rw [e]
  exact H.out),HY⟩
 case round=>
  obtain ⟨j,hjk,rfl,hB,HW,HF⟩:=hrel
  rcases Nat.eq_zero_or_pos gk with h0 | h0
  ·subst h0
   obtain hj:j = S.m:=by omega
   subst hj
   have HE:Hid (Post (.returned (.tuple #[])) wr):=hide (by
    rw [← HP.out]
    exact ⟨rfl,hB,HW.out⟩)
   clear hjk HW HF
   go_wp2_with fail
   exact ⟨rfl,.tuple #[],by simp [results,Try.results29,go_sem],HE.out⟩
  ·have hj:j < S.m:=by omega
   have ej:(j:Int) < (S.m:Int):=by omega
   have ejm:(j:Int) < (m':Int):=by omega
   obtain ⟨xn,xa,xl,xk,xm,xb,xi,xj,x0,x1,x2,x3,hq⟩:=HF.out j hj
   have hzj:=HZ.out j hj
   obtain ⟨C,hC⟩:∃ C,ordQ (y j) 0 = C:=⟨_,rfl⟩
   have HC:=hide hC
   have hnk:=HK.out j hj
   clear hC
   by_cases h0':y j = 0
   ·have hC0:C = 0:=Classical.byContradiction fun e=>ordQ_nz.1 (by rw [HC.out]; exact e) h0'
    have HNX:Hid (bumped (j + 1) y st.need = bumped j y st.need):=hide (by rw [bumped_next,if_neg (fun e=>e h0')])
    have hcc:=FCmp_at hq (FracV.zero wr) hzj (Qn.z Qn.zero (by decide)) HC.out
    subst hC0
    have HCC:=hide hcc
    have HYJ:=hide h0'
    clear hcc h0'
    go_wp2_with fail
    refine HCC.out.mono ?_
    rintro e w2 ⟨rfl,hb2⟩
    have hN2:N ≤ wr.heap.size:=Nat.le_trans hN hB.size
    have hB2:=hB.trans (hb2.mono hN2)
    clear x0 x1 x2 x3
    go_wp2_with fail
    go_roundg (gk - 1)
    case measure=>omega
    case rel=>exact ⟨j + 1,by omega,by go_num,hB2,hide (by rw [HNX.out]; exact HW.out.below hb2),hide (fun i hi=>(HF.out i hi).below hb2 (Nat.le_refl _))⟩
   ·have hC0:(C != 0) = true:=by
     have h1:=ordQ_nz.2 h0'
     rw [HC.out] at h1
     simp [h1]
    have hC1:¬C = 0:=by simpa using hC0
    have HNX:Hid (bumped (j + 1) y st.need = put (bumped j y st.need) j (st.need j + 1)):=hide (by rw [bumped_next,if_pos h0'])
    have hcc:=FCmp_at hq (FracV.zero wr) hzj (Qn.z Qn.zero (by decide)) HC.out
    have HCC:=hide hcc
    have HYJ:=hide h0'
    clear hcc h0'
    go_wp2_with fail
    refine HCC.out.mono ?_
    rintro e w2 ⟨rfl,hb2⟩
    have hN2:N ≤ wr.heap.size:=Nat.le_trans hN hB.size
    have hB2:=hB.trans (hb2.mono hN2)
    have hW2:=HW.out.below hb2
    have p5:w2.cell? ⟨L.p,5,none⟩ = some (.slice (some ⟨L.gn,0,none⟩) S.m S.m):=hW2.blk.cell 5
    have n0:w2.cell? ⟨L.gn,j,none⟩ = some (.int .i64 (st.need j:Int)):=by
     have h:=hW2.nd j hj
     rw [show ({ st with need:=bumped j y st.need }:LS).need j = st.need j from bumped_at] at h
     exact h
    have nf:=hW2.nb.frozen j
    obtain ⟨W3,hW3⟩:∃ W3,putL L.gn w2 j [.int .i64 ((st.need j + 1:Nat):Int)] = W3:=⟨_,rfl⟩
    have hu:∀ u ∈ [Value.int .i64 ((st.need j + 1:Nat):Int)],NoU u:=fun u hu=>by
     simp only [List.mem_cons,List.not_mem_nil,or_false] at hu
     rw [hu]
     exact NoU.i64 _
    have hL3:LiW N W3 S { st with need:=bumped (j + 1) y st.need } L:=by
     rw [← hW3,HNX.out]
     exact hW2.setNeed hj (st.need j + 1)
    have hF3:∀ i,i < S.m → FAt W3 gy (i * 4) (y i):=fun i hi=>by
     rw [← hW3]
     exact ((HF.out i hi).below hb2 (Nat.le_refl _)).putL hW2.nb hu (.inl hgy)
    have hB3:Below N w W3:=by rw [← hW3]; exact below_putL hB2 hW2.le.2.2.2
    have HL3:=hide hL3
    have HF3:=hide hF3
    have e1:((st.need j + 1:Nat):Int) = (st.need j:Int) + 1:=by omega
    rw [e1] at hW3
    simp only [putL] at hW3
    have HW3:=hide hW3
    clear hW3 hL3 hF3 hW2 hu HW HF e1 x0 x1 x2 x3
    go_upto_region 5 with (fail)
    rw [HW3.out]
    clear HW3 p5 n0 nf
    go_wp2_with fail
    go_roundg (gk - 1)
    case measure=>omega
    case rel=>exact ⟨j + 1,by omega,by go_num,hB3,HL3,HF3⟩
end Go.Proofs.Ytphjffbldhhdiaa
