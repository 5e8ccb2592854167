/- Rows and integers that came in, opened. -/
import Derived.Test.YtphjffbldhhdiaaLiRaw
import Derived.Deep.Slices
import Derived.Deep.Fields
namespace Go.Proofs.Ytphjffbldhhdiaa
open Go.ChangeShapes Go.WideShapes Go.ChangeAt Go.RowKit

theorem cellsIR:Try.prog.cellsOf 48 = 3:=by kernel_rfl
theorem cellsIS:Try.prog.cellsOf 25 = 1:=by kernel_rfl
theorem cellsII:Try.prog.cellsOf 38 = 2:=by kernel_rfl
set_option maxRecDepth 100000 in
theorem open_ilist {H:Type} {enc:TypeId × Value → H} {W:World} {n:Nat} {v:Value} {y:DataW H × List MemPlace} (h:DataW.trod enc Try.prog W 0 (fun _=>true) true n 25 [v] = some y) :
  ∃ (a:Option Addr) (cap:Nat) (xs:List Raw),v = .slice a xs.length cap ∧ Fit a xs.length cap ∧ cap ≤ maxLen ∧ IListAt W a xs:=by
 rcases Go.Deep.open_slice Try.underlying25 h with ⟨hcs,_⟩ | ⟨a,len,cap,m,n,D,Pl,hcs,_,hl,hm,hmm,_,hi⟩
 ·simp at hcs
  subst hcs
  exact ⟨none,0,[],rfl,⟨Nat.le_refl _,fun _=>rfl⟩,by unfold maxLen; omega,fun h=>by simp at h⟩
 ·simp at hcs
  subst hcs
  simp only [if_true] at hmm
  rw [cellsII] at hi
  have key:∀ i,i < len → ∃ R:Raw,W.cell? (a.add (i * 2)) = some (.bool R.neg) ∧ W.cell? (a.add (i * 2 + 1)) = some (.slice R.at_ R.ds.length R.cap) ∧ RawOk W R:=by
   intro i him
   obtain ⟨cs',hc,ht'⟩:=hi i (by omega)
   obtain ⟨_,hcl,hat⟩:=World.cells?_some hc
   match cs',hcl with
   | [c0,c1],_=>
    obtain ⟨R,rfl,rfl,hR⟩:=open_two ht'
    have a0':=hat 0 (by decide)
    have a1':=hat 1 (by decide)
    rw [Go.Deep.add_add] at a0' a1'
    simp at a0' a1'
    exact ⟨R,a0',a1',hR⟩
  obtain ⟨xs,h1,h2⟩:=exists_list len key
  refine ⟨some a,cap,xs,by rw [h1],⟨by rw [h1]; exact hl,fun h=>by cases h⟩,hm,fun h0=>?_⟩
  have hx0:=(h2 0 h0).1
  have hx:a = ⟨a.block,a.off,none⟩:=spot_none (by simpa [Addr.add] using hx0)
  refine ⟨a.block,a.off,by rw [← hx],fun i hi'=>?_⟩
  obtain ⟨g0,g1,g2⟩:=h2 i hi'
  rw [hx,add_plain] at g0 g1
  exact ⟨g0,by rw [Nat.add_assoc]; exact g1,g2⟩
set_option maxRecDepth 100000 in
theorem open_irows {H:Type} {enc:TypeId × Value → H} {W:World} {b0:Nat} {r:Reach} {v:Value} {d:DataW H} {p:List MemPlace} (hv:Value.okWide Try.prog W r b0 22 v) (h:DataW.Trod enc Try.prog W 0 (fun _=>true) true 22 v d p) :
  ∃ (a:Option Addr) (cap:Nat) (rs:List LRow),v = .slice a rs.length cap ∧ Fit a rs.length cap ∧ IRowsAt W a rs:=by
 obtain ⟨a0,len0,cap0,rfl⟩:=okWide_slice Try.underlying22 hv
 obtain ⟨fuel,hf⟩:=h
 rcases Go.Deep.open_slice Try.underlying22 hf with ⟨hcs,_⟩ | ⟨a,len,cap,m,n,D,Pl,hcs,_,hl,hm,hmm,hxx,hi⟩
 ·simp [Value.cells] at hcs
  obtain ⟨rfl,rfl,rfl⟩:=hcs
  exact ⟨none,0,[],rfl,⟨Nat.le_refl _,fun _=>rfl⟩,fun h=>by simp at h⟩
 ·simp [Value.cells] at hcs
  obtain ⟨rfl,rfl,rfl⟩:=hcs
  simp only [if_true] at hmm
  rw [cellsIR] at hi
  have key:∀ i,i < len0 → ∃ r:LRow,W.cell? (a.add (i * 3)) = some (.slice r.at_ r.xs.length r.cap) ∧ Fit r.at_ r.xs.length r.cap ∧ IListAt W r.at_ r.xs ∧ W.cell? (a.add (i * 3 + 1)) = some (.bool r.most.neg) ∧ W.cell? (a.add (i * 3 + 2)) = some (.slice r.most.at_ r.most.ds.length r.most.cap) ∧ RawOk W r.most:=by
   intro i him
   obtain ⟨cs',hc,ht'⟩:=hi i (by omega)
   obtain ⟨_,hcl,hat⟩:=World.cells?_some hc
   match cs',hcl with
   | [c0,c1,c2],_=>
    obtain ⟨y0,y1,n',_,_,h0,h1⟩:=Go.ChangeShapes.trod_struct2 Try.underlying48 ht'
    have h0':DataW.trod enc Try.prog W 0 (fun _=>true) true n' 25 [c0] = some y0:=by
     have h:=h0
     simpa [Value.cells,cellsIS] using h
    have h1':DataW.trod enc Try.prog W 0 (fun _=>true) true n' 38 [c1,c2] = some y1:=by
     have h:=h1
     simpa [Value.cells,cellsIS,cellsII] using h
    obtain ⟨xa,xc,xs,rfl,hfit,_,hls⟩:=open_ilist h0'
    obtain ⟨M,rfl,rfl,hM⟩:=open_two h1'
    have a0':=hat 0 (by decide)
    have a1':=hat 1 (by decide)
    have a2':=hat 2 (by decide)
    rw [Go.Deep.add_add] at a0' a1' a2'
    simp at a0' a1' a2'
    exact ⟨⟨xa,xc,xs,M⟩,a0',hfit,hls,a1',a2',hM⟩
  obtain ⟨rs,h1,h2⟩:=exists_list len0 key
  refine ⟨some a,cap0,rs,by rw [h1],⟨by rw [h1]; exact hl,fun h=>by cases h⟩,fun h0=>?_⟩
  have hx0:=(h2 0 h0).1
  have hx:a = ⟨a.block,a.off,none⟩:=spot_none (by simpa [Addr.add] using hx0)
  refine ⟨a.block,a.off,by rw [← hx],fun i hi'=>?_⟩
  obtain ⟨g0,g1,g2,g3,g4,g7⟩:=h2 i hi'
  rw [hx,add_plain] at g0 g3 g4
  exact ⟨g0,g1,g2,by rw [Nat.add_assoc]; exact g3,by rw [Nat.add_assoc,Nat.add_assoc]; exact g4,g7⟩
set_option maxRecDepth 100000 in
theorem open_ints2 {H:Type} {enc:TypeId × Value → H} {W:World} {b0:Nat} {r:Reach} {v:Value} {d:DataW H} {p:List MemPlace} (hv:Value.okWide Try.prog W r b0 25 v) (h:DataW.Trod enc Try.prog W 0 (fun _=>true) true 25 v d p) :
  ∃ (a:Option Addr) (cap:Nat) (xs:List Raw),v = .slice a xs.length cap ∧ Fit a xs.length cap ∧ IListAt W a xs:=by
 obtain ⟨a0,len0,cap0,rfl⟩:=okWide_slice Try.underlying25 hv
 obtain ⟨fuel,hf⟩:=h
 obtain ⟨a,c,xs,e,h1,_,h2⟩:=open_ilist (v:=.slice a0 len0 cap0) (by simpa [Value.cells] using hf)
 exact ⟨a,c,xs,e,h1,h2⟩
set_option maxRecDepth 100000 in
theorem open_word {H:Type} {enc:TypeId × Value → H} {W:World} {b0:Nat} {r:Reach} {v:Value} {d:DataW H} {p:List MemPlace} (hv:Value.okWide Try.prog W r b0 3 v) (h:DataW.Trod enc Try.prog W 0 (fun _=>true) true 3 v d p):∃ m:Int,v = .int .i64 m ∧ -9223372036854775808 ≤ m ∧ m ≤ 9223372036854775807:=by
 obtain ⟨k,rfl,_,_,hk⟩:=Go.ChangeShapes.open_int Try.underlying3 hv h
 have hmin:IntKind.i64.min = -9223372036854775808:=rfl
 have hmax:IntKind.i64.max = 9223372036854775807:=rfl
 simp [Lit.wf,hmin,hmax] at hk
 exact ⟨_,rfl,hk.1,hk.2⟩
end Go.Proofs.Ytphjffbldhhdiaa
