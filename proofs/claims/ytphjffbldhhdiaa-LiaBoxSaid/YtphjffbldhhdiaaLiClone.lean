/- slices.Clone of rows: by its contract. -/
import Derived.Test.YtphjffbldhhdiaaLiSt
import Derived.WalkSpells
namespace Go.Proofs.Ytphjffbldhhdiaa
open Go.RowKit

theorem RowsV.cells_l {w:World} {b o:Nat} {S:Sys} (h:RowsV w b o S):∃ news:List Value,news.length = S.m * 5 ∧ (∀ i,i < S.m * 5 → news[i]? = w.cell? ⟨b,o + i,none⟩) ∧ (∀ j u,news[j]? = some u → w.cell? ((⟨b,o,none⟩:Addr).add j) = some u) ∧ (∀ u ∈ news,u.oneCell' = true) ∧ ∀ u ∈ news,NoU u:=by
 have hx:∀ i,i < S.m * 5 → ∃ u,w.cell? ⟨b,o + i,none⟩ = some u ∧ u.oneCell' = true ∧ NoU u:=fun i hi=>by
  obtain ⟨ra,rk,c0,_,_,hm⟩:=h (i / 5) (by omega)
  obtain ⟨n,a,l,k,m,a2,l2,k2,h0,h1,h2,h3,_⟩:=hm
  have key:∀ d,d < 5 → ∃ u,w.cell? ⟨b,o + i / 5 * 5 + d,none⟩ = some u ∧ u.oneCell' = true ∧ NoU u:=fun d hd=>by
   match d,hd with
   | 0,_=>exact ⟨_,c0,rfl,NoU.slice _ _ _⟩
   | 1,_=>exact ⟨_,h0,rfl,NoU.bool _⟩
   | 2,_=>exact ⟨_,h1,rfl,NoU.slice _ _ _⟩
   | 3,_=>exact ⟨_,h2,rfl,NoU.bool _⟩
   | 4,_=>exact ⟨_,h3,rfl,NoU.slice _ _ _⟩
  have h5:=key (i % 5) (by omega)
  rwa [show o + i / 5 * 5 + i % 5 = o + i from by omega] at h5
 obtain ⟨l,hl,hl2⟩:=exists_list (S.m * 5) hx
 refine ⟨l,hl,fun i hi=>?_,fun j u hj=>?_,fun u hu=>?_,fun u hu=>?_⟩
 ·have hi':i < l.length:=by omega
  rw [List.getElem?_eq_getElem hi',(hl2 i hi').1]
 ·have hlt:j < l.length:=(List.getElem?_eq_some_iff.1 hj).1
  rw [List.getElem?_eq_getElem hlt] at hj
  obtain rfl:=Option.some.inj hj
  rw [add_plain]
  exact (hl2 j hlt).1
 ·obtain ⟨j,hj,rfl⟩:=List.mem_iff_getElem.1 hu
  exact (hl2 j hj).2.1
 ·obtain ⟨j,hj,rfl⟩:=List.mem_iff_getElem.1 hu
  exact (hl2 j hj).2.2
def RClonePost (w:World) (S:Sys) (e:Ending) (w':World):Prop:=Below w.heap.size w w' ∧ ∃ v,e = .returned v ∧ RowsC w' w.heap.size v S
set_option maxRecDepth 100000 in
set_option maxHeartbeats 1600000 in
theorem rclone_any {S:Sys} {cap:Nat} {a:Option Addr} {P:Nat → Prop} (w:World) (hR:RowsB w (.slice a S.m cap) S P) (hm:S.m ≤ 1000) :
  Calls Try.prog 59 #[.slice a S.m cap] w (RClonePost w S):=by
 generalize hP:RClonePost w S = Post
 have HP:=hide hP
 clear hP
 have heq:=fun (a:Option Addr) (n c:Nat)=>Lib.run_eql_slice_nil (P:=Try.prog) w 66 99 a n c 0 0 Try.underlying66
 have HR:=hide hR
 obtain ⟨a',k',he,hf,-⟩:=hR
 injection he with he1 _ he2
 subst he1 he2
 obtain ⟨n,hn⟩:∃ n,S.m = n:=⟨_,rfl⟩
 cases a with
 | none=>
  obtain ⟨h1,h2⟩:=hf
  obtain rfl:cap = 0:=h2 rfl
  have h0:S.m = 0:=by omega
  have HE:Hid (Post (.returned (.slice none 0 0)) w):=hide (by
   rw [← HP.out]
   refine ⟨Below.refl _ _,_,rfl,[],by rw [h0]; exact World.ownsRow_nil _ _ _ _,(fun g h=>by cases h),(fun g h=>by cases h)⟩)
  rw [h0]
  clear h1 h2 hn h0 HR
  go_enter Try.func59,Try.ntmps59
  go_wp2_with fail
  exact HE.out
 | some ad=>
  obtain ⟨a1,k1,e1,b,o,ha,hV⟩:=HR.out.rowsV
  injection e1 with e1 _ _
  subst e1
  obtain ⟨news,hnl,hnw,hns,hn1,hnu⟩:=hV.cells_l
  have hns':∀ j u,news[j]? = some u → (w.alloc (.cells #[] 99)).cell? (ad.add j) = some u:=fun j u h=>by
   have hlt:j < news.length:=(List.getElem?_eq_some_iff.1 h).1
   have e:=Option.some.inj (ha (by omega))
   rw [e]
   exact cellB (hns j u h) ((Below.refl w.heap.size w).alloc (Nat.le_refl _) _) (Nat.le_refl _)
  have hbA:Below w.heap.size w (w.alloc (.cells #[] 99)):=(Below.refl _ _).alloc (Nat.le_refl _) _
  have hcal:∀ g,(Value.slice (some ⟨w.heap.size,0,none⟩) 0 0).ownBlock = some g → Calm (w.alloc (.cells #[] 99)) g:=fun g e=>by
   obtain rfl:=Option.some.inj e
   exact Calm.of (Blk.new w _ _) (fun u hu=>by simp at hu)
  obtain ⟨i0,hi0,hz0,hz1,hz2⟩:=info_parts infoRw
  have HNS:=hide hns'
  have HCA:=hide hcal
  have HN1:=hide hn1
  have HNU:=hide hnu
  have HNL:=hide hnl
  have HNW:=hide hnw
  have HV:=hide hV
  have HBA:=hide hbA
  have HZU:=hide zeroRw_calm
  clear hns' hcal hn1 hnu hnl hnw hV hbA ha hns hn HR
  go_enter Try.func59,Try.ntmps59
  go_upto_region 3 with (fail)
  go_wp2_with (at_builtin; refine wpList_append_calm _ rfl (.tmp 5) (.tmp 6) 66 rfl w.heap.size 99 i0 (.agg #[.slice none 0 0,.bool false,.slice none 0 0,.bool false,.slice none 0 0]) 5 88 Try.underlying66 hi0 hz0 hz1 hz2 rfl (by decide) (.slice (some ⟨w.heap.size,0,none⟩) 0 0) 0 [] rfl ?c1 ad S.m cap news rfl HNL.out HNS.out HN1.out ?c4 ?c5 ?c6 HCA.out HNU.out HZU.out ?_)
  case c1=>exact World.ownsRow_made w #[] 0 (Nat.le_refl _) (by unfold maxLen; omega) rfl
  case c4=>unfold maxLen; omega
  case c5=>omega
  intro v' w1 hown hgrow hat hcalm
  have hB:Below w.heap.size w w1:=HBA.out.grown hgrow (by simp) (fun k hk=>by obtain rfl:=Option.some.inj hk; exact Nat.le_refl _)
  have hown':w1.ownsRow w.heap.size 99 5 v' S.m news:=by simpa using hown
  have HE:Hid (Post (.returned v') w1):=hide (by
   rw [← HP.out]
   refine ⟨hB,v',rfl,news,hown',hcalm,fun g hg i hi=>?_⟩
   have hgw:w.heap.size ≤ g:=(hown'.lt g hg).1
   have hcell:∀ d u,d < 5 → w.cell? ⟨b,o + i * 5 + d,none⟩ = some u → w1.cell? ⟨g,i * 5 + d,none⟩ = some u:=fun d u hd hu=>by
    have:=hown'.cells hg (i * 5 + d) u (by rw [HNW.out _ (by omega),← hu,Nat.add_assoc])
    rw [add_plain,Nat.zero_add] at this
    exact this
   obtain ⟨ra,rk,c0,rfit,rrow,rmost⟩:=HV.out i hi
   refine ⟨ra,rk,hcell 0 _ (by decide) c0,rfit,fun h0=>?_,?_⟩
   ·obtain ⟨rb,ro,e,hF⟩:=rrow h0
    refine ⟨rb,ro,e,fun e=>by have:=(hF 0 h0).lt; omega,fun c hc=>?_⟩
    exact ((hF c hc).below HBA.out (Nat.le_refl _)).grown hgrow (fun e=>by have h1:=(hF c hc).lt; have h2:rb = w.heap.size:=Option.some.inj e; omega) HCA.out
   ·refine (rmost.below HBA.out (Nat.le_refl _)).moved hgrow HCA.out (fun d u hd hu=>?_)
    have hlt:b < w.heap.size:=rmost.lt
    have hu':w.cell? ⟨b,o + i * 5 + 1 + d,none⟩ = some u:=(HBA.out.cell (p:=⟨b,o + i * 5 + 1 + d,none⟩) hlt).symm.trans hu
    have:=hcell (d + 1) u (by omega) (by rw [show o + i * 5 + (d + 1) = o + i * 5 + 1 + d from by omega]; exact hu')
    rwa [show i * 5 + (d + 1) = i * 5 + 1 + d from by omega] at this)
  obtain ⟨a2,k2,rfl⟩:=own_slice hown'
  clear hown hown' hgrow hat hcalm
  go_wp2_with fail
  exact HE.out
end Go.Proofs.Ytphjffbldhhdiaa
