/- What lia answers, as it is told. -/
import Derived.Test.YtphjffbldhhdiaaLiSolve
import Derived.Test.YtphjffbldhhdiaaLiGreat
namespace Go.Proofs.Ytphjffbldhhdiaa
open Go.RowKit

theorem great_fair {U:Int} {rs:List LRow} (h1:U ≤ 4) (h2:rs.length ≤ 10) (h3:∀ r ∈ rs,r.xs.length ≤ 6 ∧ r.sz 1) (hr:rightI U rs = true):LFair (isysOf U.toNat rs):=by
 have h0:0 ≤ U:=by
  unfold rightI at hr
  simp only [Bool.and_eq_true,decide_eq_true_eq] at hr
  exact hr.1
 have e:U = ((U.toNat:Nat):Int):=by omega
 rw [e] at hr
 have hs:=isys_size hr (fun r hx=>(h3 r hx).2)
 exact ⟨by show U.toNat ≤ 4; omega,by show rs.length ≤ 40; omega,⟨hs.1,fun i hi=>Nat.le_trans (hs.2 i hi) (by decide)⟩⟩
def LOut (S:ISys) (fuel:Int) (vd used:Int) (vals:List Int) (rows:List Nat):Prop:=∃ (t:Nat → LS) (j:Nat),LRun S t j ∧
  ((∃ z,LFin S (t j) (.sat z) ∧ (j:Int) + 1 ≤ fuel ∧ vd = 1 ∧ used = (j:Int) + 1 ∧ vals = (List.range S.n).map z ∧ rows = []) ∨
   (∃ nd,LFin S (t j) (.unsat nd) ∧ (j:Int) + 1 ≤ fuel ∧ vd = 2 ∧ used = (j:Int) + 1 ∧ vals = [] ∧ rows = reasL S.m nd) ∨
   ((j:Int) = max fuel 0 ∧ vd = 0 ∧ used = (j:Int) ∧ vals = [] ∧ rows = []))
section
variable {S:ISys} {f f' vd vd' us us':Int} {vs vs':List Int} {rw rw':List Nat}
theorem LOut.same (h:LOut S f vd us vs rw) (h':LOut S f vd' us' vs' rw'):vd = vd' ∧ us = us' ∧ vs = vs' ∧ rw = rw':=by
 obtain ⟨t,j,hr,h⟩:=h
 obtain ⟨t',j',hr',h'⟩:=h'
 rcases h with ⟨z,hf,hj,rfl,rfl,rfl,rfl⟩ | ⟨nd,hf,hj,rfl,rfl,rfl,rfl⟩ | ⟨hj,rfl,rfl,rfl,rfl⟩ <;>
 rcases h' with ⟨z',hf',hj',rfl,rfl,rfl,rfl⟩ | ⟨nd',hf',hj',rfl,rfl,rfl,rfl⟩ | ⟨hj',rfl,rfl,rfl,rfl⟩
 ·obtain ⟨rfl,e⟩:=hr.fin hf hr' hf'
  injection e with e
  subst e
  exact ⟨rfl,rfl,rfl,rfl⟩
 ·have:=(hr.fin hf hr' hf').2; cases this
 ·have:=hr.le hf hr'; omega
 ·have:=(hr.fin hf hr' hf').2; cases this
 ·obtain ⟨rfl,e⟩:=hr.fin hf hr' hf'
  injection e with e
  subst e
  exact ⟨rfl,rfl,rfl,rfl⟩
 ·have:=hr.le hf hr'; omega
 ·have:=hr'.le hf' hr; omega
 ·have:=hr'.le hf' hr; omega
 ·have:j = j':=by omega
  subst this
  exact ⟨rfl,rfl,rfl,rfl⟩
theorem LOut.more (h:LOut S f vd us vs rw) (hv:vd ≠ 0) (hf:f ≤ f'):LOut S f' vd us vs rw:=by
 obtain ⟨t,j,hr,h⟩:=h
 rcases h with ⟨z,hf,hj,e⟩ | ⟨nd,hf,hj,e⟩ | ⟨hj,e,_⟩
 ·exact ⟨t,j,hr,.inl ⟨z,hf,by omega,e⟩⟩
 ·exact ⟨t,j,hr,.inr (.inl ⟨nd,hf,by omega,e⟩)⟩
 ·exact (hv e).elim
theorem LOut.kind (h:LOut S f vd us vs rw):vd = 0 ∨ vd = 1 ∨ vd = 2:=by
 obtain ⟨t,j,hr,h⟩:=h
 rcases h with ⟨z,hf,hj,e,_⟩ | ⟨nd,hf,hj,e,_⟩ | ⟨hj,e,_⟩
 ·exact .inr (.inl e)
 ·exact .inr (.inr e)
 ·exact .inl e
theorem LOut.rows_le (h:LOut S f vd us vs rw):rw.length ≤ S.m:=by
 obtain ⟨t,j,hr,h⟩:=h
 rcases h with ⟨z,hf,hj,_,_,_,rfl⟩ | ⟨nd,hf,hj,_,_,_,rfl⟩ | ⟨hj,_,_,_,rfl⟩
 ·exact Nat.zero_le _
 ·exact reasL_len _ _
 ·exact Nat.zero_le _
theorem LOut.vals_le (h:LOut S f vd us vs rw):vs.length ≤ S.n:=by
 obtain ⟨t,j,hr,h⟩:=h
 rcases h with ⟨z,hf,hj,_,_,rfl,_⟩ | ⟨nd,hf,hj,_,_,rfl,_⟩ | ⟨hj,_,_,rfl,_⟩
 ·simp
 ·exact Nat.zero_le _
 ·exact Nat.zero_le _
theorem LOut.sat (h:LOut S f vd us vs rw) (hv:vd = 1):∃ z:Nat → Int,(∀ i,i < S.m → S.Row z i) ∧ vs = (List.range S.n).map z ∧ rw = []:=by
 obtain ⟨t,j,hr,h⟩:=h
 rcases h with ⟨z,hf,hj,e,_,e2,e3⟩ | ⟨nd,hf,hj,e,_⟩ | ⟨hj,e,_⟩
 ·exact ⟨z,hf.sat.1,e2,e3⟩
 ·omega
 ·omega
theorem LOut.unsat (h:LOut S f vd us vs rw) (hv:vd = 2) (p:Nat → Int):¬∀ i,i ∈ rw → S.Row p i:=by
 obtain ⟨t,j,hr,h⟩:=h
 rcases h with ⟨z,hf,hj,e,_,e2,e3⟩ | ⟨nd,hf,hj,e,_,_,rfl⟩ | ⟨hj,e,_⟩
 ·omega
 ·intro hp
  exact (hr.good j (Nat.le_refl _)).unsat hf (p:=p) (fun i hi hn=>hp i (mem_reasL.2 ⟨hi,hn⟩))
 ·omega
theorem LOut.unsat_all (h:LOut S f vd us vs rw) (hv:vd = 2) (p:Nat → Int):¬∀ i,i < S.m → S.Row p i:=fun hp=>by
 refine h.unsat hv p (fun i hi=>hp i ?_)
 obtain ⟨t,j,hr,h⟩:=h
 rcases h with ⟨z,hf,hj,e,_,e2,e3⟩ | ⟨nd,hf,hj,e,_,_,rfl⟩ | ⟨hj,e,_⟩
 ·omega
 ·exact (mem_reasL.1 hi).1
 ·omega
end
theorem LOut.sm {S:ISys} {f vd us:Int} {vs:List Int} {rw:List Nat} (h:LOut S f vd us vs rw) (hS:LFair S) (hf:f ≤ 10000):∀ v ∈ vs,len v ≤ 100000000000:=by
 obtain ⟨t,j,hr,h⟩:=h
 rcases h with ⟨z,⟨x,hx,hd,rfl⟩,hj,e,_,rfl,e3⟩ | ⟨nd,hf,hj,e,_,rfl,_⟩ | ⟨hj,e,_,rfl,_⟩
 ·intro v hv
  obtain ⟨c,hc,rfl⟩:=List.mem_map.1 hv
  obtain ⟨h1,h2⟩:=hr.fine hS (by omega)
  exact Nat.le_trans (floor_len (x c)) (h1.qz hS h2 hx (List.mem_range.1 hc)).1
 ·intro v hv; cases hv
 ·intro v hv; cases hv
structure AnsAt (w:World) (va:Option Addr) (vc:Nat) (vals:List Int) (ra:Option Addr) (rows:List Nat):Prop where
 rows:Dg .i64 w ra rows
 vals:0 < vals.length → ∃ g o,va = some ⟨g,o,none⟩ ∧ ∀ i (h:i < vals.length),IAt w g (o + i * 2) vals[i]
theorem AnsAt.below {w w':World} {B:Nat} {va:Option Addr} {vc:Nat} {vals:List Int} {ra:Option Addr} {rows:List Nat} (h:AnsAt w va vc vals ra rows) (hb:Below B w w') (hB:w.heap.size ≤ B):AnsAt w' va vc vals ra rows:=
 ⟨h.rows.below hb hB,fun h0=>by
  obtain ⟨g,o,e,h1⟩:=h.vals h0
  exact ⟨g,o,e,fun i hi=>(h1 i hi).below hb hB⟩⟩
theorem lsolve_at {U:Int} {a:Option Addr} {cap:Nat} {rs:List LRow} {fuel:Int} (w:World) (hx:IRowsAt w a rs) (hl:rs.length ≤ 40) (hxl:∀ r ∈ rs,r.xs.length ≤ 1000000) (hr:rightI U rs = true) (hf:LFair (isysOf U.toNat rs)) (hfu:fuel ≤ 10000) :
  Calls Try.prog 10 #[.int .i64 U,.slice a rs.length cap,.int .i64 fuel] w fun e w'=>Below w.heap.size w w' ∧ ∃ (vd us:Int) (va:Option Addr) (vc:Nat) (vals:List Int) (ra:Option Addr) (rc:Nat) (rows:List Nat),e = .returned (.tuple #[.agg #[.int .i64 vd,.slice va vals.length vc,.slice ra rows.length rc,.int .i64 us],.int .i64 0]) ∧ LOut (isysOf U.toNat rs) fuel vd us vals rows ∧ AnsAt w' va vc vals ra rows:=by
 refine (lsolve_any U a cap rs fuel w hx hl hxl (fun _=>hf) hfu).mono ?_
 rintro e w' ⟨hb,⟨h1,_⟩ | ⟨_,v,rfl,t,j,hrun,h⟩⟩
 ·rw [hr] at h1; cases h1
 ·refine ⟨hb,?_⟩
  rcases h with ⟨z,g,hf,hj,hg,rfl,hz⟩ | ⟨nd,u,hf,hj,ho,rfl⟩ | ⟨hj,rfl⟩
  ·refine ⟨1,(j:Int) + 1,some ⟨g,0,none⟩,(isysOf U.toNat rs).n,(List.range (isysOf U.toNat rs).n).map z,none,0,[],by simp,⟨t,j,hrun,.inl ⟨z,hf,hj,rfl,rfl,rfl,rfl⟩⟩,⟨Dg.nil _ _,fun _=>⟨g,0,rfl,fun i hi=>?_⟩⟩⟩
   have hi':i < (isysOf U.toNat rs).n:=by simpa using hi
   rw [Nat.zero_add]
   simpa using hz i hi'
  ·obtain ⟨ua,uk,rfl⟩:=own_slice ho
   exact ⟨2,(j:Int) + 1,none,0,[],ua,uk,reasL (isysOf U.toNat rs).m nd,rfl,⟨t,j,hrun,.inr (.inl ⟨nd,hf,hj,rfl,rfl,rfl,rfl⟩)⟩,⟨own_dg ho |>.1,fun h=>by simp at h⟩⟩
  ·exact ⟨0,(j:Int),none,0,[],none,0,[],rfl,⟨t,j,hrun,.inr (.inr ⟨hj,rfl,rfl,rfl,rfl⟩)⟩,⟨Dg.nil _ _,fun h=>by simp at h⟩⟩
end Go.Proofs.Ytphjffbldhhdiaa
