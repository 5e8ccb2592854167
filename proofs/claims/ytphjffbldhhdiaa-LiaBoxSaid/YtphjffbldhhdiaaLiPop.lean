/- The forks: the last one is changed, or goes. -/
import Derived.Test.YtphjffbldhhdiaaLiForks
namespace Go.Proofs.Ytphjffbldhhdiaa
open Go.RowKit

section
variable {w w':World} {g cap N:Nat} {z:Int} {k:Fk} {ks:List Fk} {v:Value} {S:ISys} {st:LS} {L:LSp}
theorem ForksC.form (h:ForksC w N v ks):(v = .slice none 0 0 ∧ ks = []) ∨ ∃ g cap,v = .slice (some ⟨g,0,none⟩) ks.length cap ∧ N ≤ g ∧ ks.length ≤ cap ∧ cap ≤ maxLen ∧ CB w g 84 (cap * 7) ∧ ∀ i k,ks.reverse[i]? = some k → FkAt w g (i * 7) k:=by
 obtain ⟨xs,h1,h2,h3⟩:=h
 rcases h1.2 with ⟨rfl,h0⟩ | ⟨g,cap,cur,rfl,hN,hg,hle,hmax,hsz,_⟩
 ·exact .inl ⟨rfl,List.length_eq_zero_iff.1 h0⟩
 ·exact .inr ⟨g,cap,rfl,hN,hle,hmax,⟨cur,hg,hsz,Calm.blk (t:=84) hg (h2 g rfl)⟩,h3 g rfl⟩
theorem ForksC.of (hN:N ≤ g) (hle:ks.length ≤ cap) (hmax:cap ≤ maxLen) (hb:CB w g 84 (cap * 7)) (hk:∀ i k,ks.reverse[i]? = some k → FkAt w g (i * 7) k):ForksC w N (.slice (some ⟨g,0,none⟩) ks.length cap) ks:=by
 obtain ⟨cur,hg,hsz,hu⟩:=hb
 refine ⟨cur.toList.take (ks.length * 7),⟨?_,.inr ⟨g,cap,cur,rfl,hN,hg,hle,hmax,hsz,rfl⟩⟩,fun g' e=>?_,fun g' e=>?_⟩
 ·have e1:cur.toList.length = cap * 7:=by simpa using hsz
  rw [List.length_take,e1]
  exact Nat.min_eq_left (Nat.mul_le_mul_right _ hle)
 ·obtain rfl:=Option.some.inj e
  exact Calm.of (t:=84) hg hu
 ·obtain rfl:=Option.some.inj e
  exact hk
theorem top_fork (hk:∀ i k',(k :: ks).reverse[i]? = some k' → FkAt w g (i * 7) k'):FkAt w g (ks.length * 7) k:=hk ks.length k (by rw [List.reverse_cons,List.getElem?_append_right (by rw [List.length_reverse]; exact Nat.le_refl _),List.length_reverse,Nat.sub_self]; rfl)
theorem fork_calm (u ok m:Bool) (a:Option Addr) (l c:Nat):∀ x ∈ [Value.bool u,.bool ok,.bool m,.slice a l c],NoU x:=fun x hx=>by
 simp only [List.mem_cons,List.not_mem_nil,or_false] at hx
 rcases hx with rfl | rfl | rfl | rfl
 ·exact NoU.bool _
 ·exact NoU.bool _
 ·exact NoU.bool _
 ·exact NoU.slice _ _ _
theorem LiW.setUp {r:List Fk} {ok m:Bool} {a:Option Addr} {l c:Nat} (h:LiW N w S st L) (hv:L.vk = .slice (some ⟨g,0,none⟩) (r.length + 1) cap) (hf:st.forks = k :: r) (hz:IntV w (.agg #[.bool m,.slice a l c]) z) :
  LiW N (putL g w (r.length * 7 + 3) [.bool true,.bool ok,.bool m,.slice a l c]) S { st with forks:=⟨k.v,k.fl,true,if ok = true then some z else none⟩ :: r } L:=by
 have hu:=fork_calm true ok m a l c
 have hb:L.vk.ownBlock = some g:=by rw [hv]; rfl
 obtain ⟨k1,k2,k3,k4⟩:=h.kb g hb
 have hfk:=h.fk
 rw [hf] at hfk
 rcases hfk.form with ⟨e,_⟩ | ⟨g',cap',e,hN,hle,hmax,hC,hk⟩
 ·rw [hv] at e; cases e
 obtain ⟨rfl,rfl⟩:g = g' ∧ cap = cap':=by
  rw [hv] at e
  injection e with e1 _ e3
  injection e1 with e1
  injection e1 with e1
  exact ⟨e1,e3⟩
 have hle':r.length + 1 ≤ cap:=hle
 have hfree:∀ b,L.Free b → b ≠ g:=fun b hb' e=>hb'.2.2.2.2 (by rw [e]; exact hb)
 exact {
  blk:=blk_putL h.blk (fun e=>k1 e.symm)
  rows:=h.rows.putL hC hu hfree
  fb:=h.fb.putL_far (fun e=>k2 e.symm)
  fl:=fun v hv=>(h.fl v hv).putL hC hu (.inl (fun e=>k2 e.symm))
  tb:=h.tb.putL_far (fun e=>k3 e.symm)
  tp:=fun v hv=>(h.tp v hv).putL hC hu (.inl (fun e=>k3 e.symm))
  nb:=h.nb.putL_far (fun e=>k4 e.symm)
  nd:=fun i hi=>(cell_putL (.inl (fun e=>k4 e.symm))).trans (h.nd i hi)
  fk:=by
   rw [hv]
   refine ForksC.of (ks:=⟨k.v,k.fl,true,if ok = true then some z else none⟩ :: r) hN hle hmax (hC.putL hu) (fun i k' hi=>?_)
   rcases Nat.lt_or_ge i r.length with hlt | hge
   ·refine (hk i k' ?_).putL hC hu (.inr (by simp only [List.length_cons,List.length_nil]; omega))
    rw [List.reverse_cons,List.getElem?_append_left (by rw [List.length_reverse]; exact hlt)] at hi ⊢
    exact hi
   ·have hl:=(List.getElem?_eq_some_iff.1 hi).1
    rw [List.length_reverse,List.length_cons] at hl
    obtain rfl:i = r.length:=by omega
    rw [List.reverse_cons,List.getElem?_append_right (by rw [List.length_reverse]; exact Nat.le_refl _),List.length_reverse,Nat.sub_self] at hi
    obtain rfl:_ = k':=by simpa using hi
    obtain ⟨t0,t1,t2,t3⟩:=top_fork hk
    refine ⟨(cell_putL (x:=⟨g,r.length * 7,none⟩) (.inr (.inl (by show r.length * 7 < r.length * 7 + 3; omega)))).trans t0,t1.putL hC hu (.inr (.inl (by omega))),hC.at (vs:=[.bool true,.bool ok,.bool m,.slice a l c]) (o:=r.length * 7 + 3) (i:=0) (by simp only [List.length_cons,List.length_nil]; omega) (by simp),ok,z,?_,⟨m,a,l,c,?_,?_,hz.putL hC hu⟩,rfl⟩
    ·exact hC.at (vs:=[.bool true,.bool ok,.bool m,.slice a l c]) (o:=r.length * 7 + 3) (i:=1) (by simp only [List.length_cons,List.length_nil]; omega) (by simp)
    ·exact hC.at (vs:=[.bool true,.bool ok,.bool m,.slice a l c]) (o:=r.length * 7 + 3) (i:=2) (by simp only [List.length_cons,List.length_nil]; omega) (by simp)
    ·exact hC.at (vs:=[.bool true,.bool ok,.bool m,.slice a l c]) (o:=r.length * 7 + 3) (i:=3) (by simp only [List.length_cons,List.length_nil]; omega) (by simp)
  ft:=h.ft
  le:=h.le
  kb:=h.kb
  apart:=h.apart }
theorem LiW.pcb (h:LiW N w S st L):CB w L.p 80 6:=by
 refine ⟨_,h.blk,rfl,fun u hu=>?_⟩
 obtain ⟨a,k,e,_⟩:=h.rows
 have hk:NoU L.vk:=by
  rcases h.fk.form with ⟨e,_⟩ | ⟨g,c,e,_⟩
  ·rw [e]; exact NoU.slice _ _ _
  ·rw [e]; exact NoU.slice _ _ _
 simp only [List.mem_toArray,List.mem_cons,List.not_mem_nil,or_false] at hu
 rcases hu with rfl | rfl | rfl | rfl | rfl | rfl
 ·exact NoU.i64 _
 ·rw [e]; exact NoU.slice _ _ _
 ·exact NoU.slice _ _ _
 ·exact NoU.slice _ _ _
 ·exact hk
 ·exact NoU.slice _ _ _
theorem LiW.setForks {v':Value} {ks':List Fk} (h:LiW N w S st L) (hs:∃ a l c,v' = .slice a l c) (hfk:ForksC w N v' ks') (hb:∀ g,v'.ownBlock = some g → g ≠ L.p ∧ g ≠ L.gf ∧ g ≠ L.gt ∧ g ≠ L.gn) (hR:RowsB w L.vr (S.all []) { L with vk:=v' }.Free) :
  LiW N (w.setCell ⟨L.p,4,none⟩ v') S { st with forks:=ks' } { L with vk:=v' }:=by
 obtain ⟨a1,a2,a3,a4,a5⟩:=h.apart
 have hu:∀ u ∈ [v'],NoU u:=fun u hu=>by
  obtain ⟨a,l,c,rfl⟩:=hs
  simp only [List.mem_cons,List.not_mem_nil,or_false] at hu
  rw [hu]
  exact NoU.slice _ _ _
 have e:w.setCell ⟨L.p,4,none⟩ v' = putL L.p w 4 [v']:=rfl
 rw [e]
 have hC:=h.pcb
 exact {
  blk:=h.blk.set_ 4 v'
  rows:=hR.putL hC hu (fun b hb=>hb.1)
  fb:=h.fb.putL_far (fun e=>a1 e.symm)
  fl:=fun v hv=>(h.fl v hv).putL hC hu (.inl (fun e=>a1 e.symm))
  tb:=h.tb.putL_far (fun e=>a2 e.symm)
  tp:=fun v hv=>(h.tp v hv).putL hC hu (.inl (fun e=>a2 e.symm))
  nb:=h.nb.putL_far (fun e=>a3 e.symm)
  nd:=fun i hi=>(cell_putL (.inl (fun e=>a3 e.symm))).trans (h.nd i hi)
  fk:=hfk.putL hC hu (fun e=>(hb L.p e).1 rfl)
  ft:=h.ft
  le:=h.le
  kb:=hb
  apart:=h.apart }
theorem LiW.pop {r:List Fk} (h:LiW N w S st L) (hv:L.vk = .slice (some ⟨g,0,none⟩) (r.length + 1) cap) (hf:st.forks = k :: r):LiW N (w.setCell ⟨L.p,4,none⟩ (.slice (some ⟨g,0,none⟩) r.length cap)) S { st with forks:=r } { L with vk:=.slice (some ⟨g,0,none⟩) r.length cap }:=by
 have hb:L.vk.ownBlock = some g:=by rw [hv]; rfl
 have hfk:=h.fk
 rw [hf] at hfk
 rcases hfk.form with ⟨e,_⟩ | ⟨g',cap',e,hN,hle,hmax,hC,hk⟩
 ·rw [hv] at e; cases e
 obtain ⟨rfl,rfl⟩:g = g' ∧ cap = cap':=by
  rw [hv] at e
  injection e with e1 _ e3
  injection e1 with e1
  injection e1 with e1
  exact ⟨e1,e3⟩
 have hle':r.length + 1 ≤ cap:=hle
 refine h.setForks ⟨_,_,_,rfl⟩ (ForksC.of hN (by omega) hmax hC (fun i k' hi=>hk i k' ?_)) (fun g' e=>h.kb g' (by rw [hb]; exact e)) (h.rows.mono fun b _ hF=>⟨hF.1,hF.2.1,hF.2.2.1,hF.2.2.2.1,fun e=>hF.2.2.2.2 (by rw [hb]; exact e)⟩)
 rw [List.reverse_cons,List.getElem?_append_left (by have:=(List.getElem?_eq_some_iff.1 hi).1; omega)]
 exact hi
end
end Go.Proofs.Ytphjffbldhhdiaa
