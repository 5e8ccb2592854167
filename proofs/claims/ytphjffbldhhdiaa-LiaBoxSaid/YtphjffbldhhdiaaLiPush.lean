/- A fork more; and what a run's sizes are. -/
import Derived.Test.YtphjffbldhhdiaaLiBack
import Derived.Test.YtphjffbldhhdiaaLiAll
import Derived.Test.YtphjffbldhhdiaaLiSize
namespace Go.Proofs.Ytphjffbldhhdiaa
open Go.RowKit

section
variable {w w':World} {row:Option Nat} {g o N:Nat} {z:Int} {b:Option Int} {v v':Value} {S:ISys} {st:LS} {L:LSp} {k:Fk}
theorem IAt.grown (h:IAt w g o z) (hb:w.grownBy w' row) (hg:some g ≠ row) (hc:∀ g,row = some g → Calm w g):IAt w' g o z:=h.moved hb hc (fun _ _ _ hu=>hb.cell hu hg)
theorem BAt.grown (h:BAt w g o b) (hb:w.grownBy w' row) (hg:some g ≠ row) (hc:∀ g,row = some g → Calm w g):BAt w' g o b:=h.moved hb hc (fun _ _ _ hu=>hb.cell hu hg)
theorem RowsB.grown {S:Sys} {P P':Nat → Prop} (h:RowsB w v S P) (hb:w.grownBy w' row) (hP:∀ b,P b → some b ≠ row) (hc:∀ g,row = some g → Calm w g) (hP':∀ b,b < w.heap.size → P b → P' b):RowsB w' v S P':=by
 obtain ⟨a,k,e,hf,b,o,ha,hr⟩:=h
 refine ⟨a,k,e,hf,b,o,ha,fun i hi=>?_⟩
 obtain ⟨hp,ra,rk,h1,h2,h3,h4⟩:=hr i hi
 refine ⟨hP' b h4.lt hp,ra,rk,hb.cell h1 (hP b hp),h2,fun hn=>?_,h4.grown hb (hP b hp) hc⟩
 obtain ⟨rb,ro,e,hq,h5⟩:=h3 hn
 exact ⟨rb,ro,e,hP' rb (h5 0 hn).lt hq,fun c hc'=>(h5 c hc').grown hb (hP rb hq) hc⟩
theorem LiW.push {xs:List Value} {n ok m:Bool} {a b:Option Addr} {l c i j:Nat} {y:Int} (h:LiW N w S st L)
  (h1:w.ownsRow N 84 7 L.vk st.forks.length xs) (h2:∀ g,L.vk.ownBlock = some g → Calm w g) (h3:∀ g,L.vk.ownBlock = some g → ∀ i k,st.forks.reverse[i]? = some k → FkAt w g (i * 7) k)
  (hown:w'.ownsRow N 84 7 v' (st.forks.length + 1) (xs ++ fkCells k n a l c ok m b i j)) (hgrow:w.grownBy w' L.vk.ownBlock) (hat:v'.ownBlock = L.vk.ownBlock ∨ v'.ownBlock = some w.heap.size) (hcalm:∀ g,v'.ownBlock = some g → Calm w' g) (hf:IntV w (.agg #[.bool n,.slice a l c]) k.fl) (hy:IntV w (.agg #[.bool m,.slice b i j]) y) (hk:k.old = if ok = true then some y else none) :
  LiW N (w'.setCell ⟨L.p,4,none⟩ v') S { st with forks:=k :: st.forks } { L with vk:=v' }:=by
 have hne:∀ g,(g = L.p ∨ g = L.gf ∨ g = L.gt ∨ g = L.gn) → some g ≠ L.vk.ownBlock:=fun g hg e=>(h.free hg).2 e.symm
 have hlt:L.p < w.heap.size ∧ L.gf < w.heap.size ∧ L.gt < w.heap.size ∧ L.gn < w.heap.size:=⟨h.blk.lt,h.fb.lt,h.tb.lt,h.nb.lt⟩
 have hnew:∀ g,v'.ownBlock = some g → g ≠ L.p ∧ g ≠ L.gf ∧ g ≠ L.gt ∧ g ≠ L.gn:=fun g e=>by
  rcases hat with h4 | h4
  ·exact h.kb g (h4 ▸ e)
  ·rw [h4] at e
   have:=Option.some.inj e
   omega
 have hRf:∀ b,L.Free b → some b ≠ L.vk.ownBlock:=fun b hb e=>hb.2.2.2.2 e.symm
 have hpush:ForksC w' N v' (k :: st.forks):=ForksC.grow h1 h2 h3 hown hgrow hcalm hf hy hk
 have hrows:RowsB w' L.vr (S.all []) { L with vk:=v' }.Free:=h.rows.grown hgrow hRf h2 (fun b hb hF=>⟨hF.1,hF.2.1,hF.2.2.1,hF.2.2.2.1,fun e=>by
  rcases hat with h4 | h4
  ·exact hF.2.2.2.2 (h4 ▸ e)
  ·rw [h4] at e
   have:=Option.some.inj e
   omega⟩)
 obtain ⟨a1,a2,a3,a4,a5⟩:=h.apart
 have hblk:Blk w' L.p 80 _:=h.blk.grown hgrow (hne _ (.inl rfl))
 have hC:CB w' L.p 80 6:=h.pcb.grown hgrow (hne _ (.inl rfl))
 have hs:∀ u ∈ [v'],NoU u:=fun u hu=>by
  simp only [List.mem_cons,List.not_mem_nil,or_false] at hu
  rw [hu]
  rcases hpush.form with ⟨e,_⟩ | ⟨g,c,e,_⟩
  ·rw [e]; exact NoU.slice _ _ _
  ·rw [e]; exact NoU.slice _ _ _
 have e:w'.setCell ⟨L.p,4,none⟩ v' = putL L.p w' 4 [v']:=rfl
 rw [e]
 exact {
  blk:=hblk.set_ 4 v'
  rows:=hrows.putL hC hs (fun b hb=>hb.1)
  fb:=(h.fb.grown hgrow (hne _ (.inr (.inl rfl)))).putL_far (fun e=>a1 e.symm)
  fl:=fun v hv=>((h.fl v hv).grown hgrow (hne _ (.inr (.inl rfl))) h2).putL hC hs (.inl (fun e=>a1 e.symm))
  tb:=(h.tb.grown hgrow (hne _ (.inr (.inr (.inl rfl))))).putL_far (fun e=>a2 e.symm)
  tp:=fun v hv=>((h.tp v hv).grown hgrow (hne _ (.inr (.inr (.inl rfl)))) h2).putL hC hs (.inl (fun e=>a2 e.symm))
  nb:=(h.nb.grown hgrow (hne _ (.inr (.inr (.inr rfl))))).putL_far (fun e=>a3 e.symm)
  nd:=fun i hi=>(cell_putL (.inl (fun e=>a3 e.symm))).trans (hgrow.cell (h.nd i hi) (hne _ (.inr (.inr (.inr rfl)))))
  fk:=hpush.putL hC hs (fun e=>(hnew L.p e).1 rfl)
  ft:=h.ft
  le:=h.le
  kb:=hnew
  apart:=h.apart }
end
theorem LRun.need {S:ISys} {t:Nat → LS} {j:Nat} (hr:LRun S t j):∀ i,i ≤ j → ∀ c,(t i).need c ≤ i
 | 0,_,c=>by rw [hr.1]; exact Nat.le_refl _
 | i + 1,hi,c=>by
  have ih:=hr.need i (by omega) c
  rcases hr.2 i (by omega) with ⟨y,ks,f,u,_,_,e⟩ | ⟨x,v,_,_,_,_,e⟩
  ·rw [e]
   show bumped S.m y (t i).need c ≤ i + 1
   unfold bumped
   split <;> omega
  ·rw [e]
   show (t i).need c ≤ i + 1
   omega
theorem back_len:∀ {ks:List Fk} {f t:Nat → Option Int} {ks' f' t'},backF ks f t = some (ks',f',t') → ks'.length ≤ ks.length
 | [],_,_,_,_,_,h=>by cases h
 | k :: r,f,t,ks',f',t',h=>by
  unfold backF at h
  by_cases hu:k.up = true
  ·rw [if_pos hu] at h
   have:=back_len h
   rw [List.length_cons]
   omega
  ·rw [if_neg hu] at h
   injection h with h
   injection h with h1 h
   subst h1
   exact Nat.le_refl _
theorem LRun.forks {S:ISys} {t:Nat → LS} {j:Nat} (hr:LRun S t j):∀ i,i ≤ j → (t i).forks.length ≤ i
 | 0,_=>by rw [hr.1]; exact Nat.le_refl _
 | i + 1,hi=>by
  have ih:=hr.forks i (by omega)
  rcases hr.2 i (by omega) with ⟨y,ks,f,u,_,hb,e⟩ | ⟨x,v,_,_,_,_,e⟩
  ·rw [e]
   have:=back_len hb
   show ks.length ≤ i + 1
   omega
  ·rw [e]
   show (t i).forks.length + 1 ≤ i + 1
   omega
structure LFair (S:ISys):Prop where
 n:S.n ≤ 4
 m:S.m ≤ 40
 sz:ISz S 100
theorem growB_le {n:Nat} (hn:n ≤ 4):growB n ≤ 2000:=by
 unfold growB
 match n,hn with
 | 0,_=>decide
 | 1,_=>decide
 | 2,_=>decide
 | 3,_=>decide
 | 4,_=>decide
theorem LRun.fine {S:ISys} {t:Nat → LS} {j:Nat} (hr:LRun S t j) (hS:LFair S) (hj:j ≤ 10000):LSz S (t j) 30000000 ∧ ISz S 30000000:=by
 have h:=hr.sz hS.sz j (Nat.le_refl _)
 have h1:=Nat.mul_le_mul hj (growB_le hS.n)
 exact ⟨h.mono (by omega),hS.sz.mono (by decide)⟩
theorem IntM.q {M:Nat} {q:Rat} (h:IntM M q) (h1:1 ≤ M):Qn M q:=by
 obtain ⟨z,rfl,hz⟩:=h
 refine ⟨by rw [Rat.num_intCast]; exact hz,?_⟩
 rw [Rat.den_intCast]
 exact Nat.le_trans len_one h1
theorem LSz.fair {S:ISys} {st:LS} (h:LSz S st 30000000) (hS:LFair S) (hS2:ISz S 30000000):Fair (st.sys S) 1 30000000:=by
 obtain ⟨h1,h2⟩:=h.rows hS2
 have hm:=hS.m
 have hn:=hS.n
 have hl:=bRows_len st.floor st.top S.n
 refine ⟨by show S.n ≤ 8; omega,by show S.m + (bRows st.floor st.top S.n).length ≤ 64; omega,by decide,by decide,h1,fun i hi=>(h2 i hi).q (by decide)⟩
theorem all_zero {S:ISys} {l:List (Nat × Int × Int)}:(∀ i c,¬(i < (S.all l).m ∧ c < (S.all l).n) → (S.all l).A i c = 0) ∧ ∀ i,(S.all l).m ≤ i → (S.all l).most i = 0:=by
 refine ⟨fun i c h=>?_,fun i h=>?_⟩
 ·have h':¬(i < S.m + l.length ∧ c < S.n):=h
  simp only [ISys.all]
  by_cases hc:c < S.n
  ·rw [if_pos hc,if_neg (by omega),List.getElem?_eq_none (by omega)]
  ·rw [if_neg hc]
 ·have h':S.m + l.length ≤ i:=h
  simp only [ISys.all]
  rw [if_neg (by omega),List.getElem?_eq_none (by omega)]
theorem LSz.sm {S:ISys} {st:LS} (h:LSz S st 30000000):(∀ v,v < S.n → (∀ b,st.top v = some b → Sm b) ∧ ∀ b,st.floor v = some b → Sm b) ∧ ∀ k ∈ st.forks,k.v < S.n ∧ Sm k.fl:=
 ⟨fun v hv=>⟨fun b hb=>Nat.le_trans (h.top v hv b hb) (by decide),fun b hb=>Nat.le_trans (h.floor v hv b hb) (by decide)⟩,fun k hk=>⟨(h.forks k hk).1,Nat.le_trans (h.forks k hk).2.1 (by decide)⟩⟩
theorem szB4 {n:Nat} (hn:n ≤ 4):(n + 1) * szB 1 n + n ≤ 2000 ∧ n * szB 1 n + 1 ≤ 2000:=by
 match n,hn with
 | 0,_=>decide
 | 1,_=>decide
 | 2,_=>decide
 | 3,_=>decide
 | 4,_=>decide
theorem LSz.qz {S:ISys} {st:LS} (h:LSz S st 30000000) (hS:LFair S) (hS2:ISz S 30000000) {x:Nat → Rat} (hx:Found' (st.sys S) x) {c:Nat} (hc:c < S.n):Qz (x c):=by
 have h1:=h.vals hS2 hx hc
 have h2:=szB4 hS.n
 exact h1.n (by omega) (by omega)
end Go.Proofs.Ytphjffbldhhdiaa
