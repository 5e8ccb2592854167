/- Rows of integers as they came in; what they are by value. -/
import Derived.Test.YtphjffbldhhdiaaSxRaw
import Derived.Test.YtphjffbldhhdiaaLiPlain
namespace Go.Proofs.Ytphjffbldhhdiaa
open Go.RowKit

def Raw.ok (R:Raw):Bool:=rightB R.neg R.ds
def Raw.z (R:Raw):Int:=signZ R.neg (Go.Proofs.Ytphjffbldhhdiaa.val BB R.ds)
theorem Raw.spec {R:Raw} (h:R.ok = true):R.neg = decide (R.z < 0) ∧ R.ds = dg BB R.z.natAbs:=by
 obtain ⟨z,h1,h2⟩:=rightB_val h
 have e:R.z = z:=by
  unfold Raw.z
  rw [h1,h2,signZ_dg]
 rw [e]
 exact ⟨h1,h2⟩
theorem RawOk.intV {w:World} {R:Raw} (h:RawOk w R) (hf:R.ok = true):IntV w R.val R.z:=by
 obtain ⟨h1,h2⟩:=Raw.spec hf
 refine ⟨R.at_,R.cap,?_,?_,?_⟩
 ·rw [← h1,← h2]; rfl
 ·rw [← h2]; exact h.fit
 ·rw [← h2]; exact h.dig
theorem Raw.len {R:Raw} (hf:R.ok = true):len R.z = R.ds.length:=by
 unfold Go.Proofs.Ytphjffbldhhdiaa.len
 rw [← (Raw.spec hf).2]
def RawAt (w:World) (g o:Nat) (R:Raw):Prop:=w.cell? ⟨g,o,none⟩ = some (.bool R.neg) ∧ w.cell? ⟨g,o + 1,none⟩ = some (.slice R.at_ R.ds.length R.cap) ∧ RawOk w R
def IAt (w:World) (g o:Nat) (z:Int):Prop:=∃ (n:Bool) (a:Option Addr) (l k:Nat),w.cell? ⟨g,o,none⟩ = some (.bool n) ∧ w.cell? ⟨g,o + 1,none⟩ = some (.slice a l k) ∧ IntV w (.agg #[.bool n,.slice a l k]) z
section
variable {w w':World} {g o B:Nat} {R:Raw} {z:Int}
theorem RawAt.below (h:RawAt w g o R) (hb:Below B w w') (hB:w.heap.size ≤ B):RawAt w' g o R:=⟨cellB h.1 hb hB,cellB h.2.1 hb hB,h.2.2.below hb hB⟩
theorem IAt.below (h:IAt w g o z) (hb:Below B w w') (hB:w.heap.size ≤ B):IAt w' g o z:=by
 obtain ⟨n,a,l,k,h0,h1,h2⟩:=h
 exact ⟨n,a,l,k,cellB h0 hb hB,cellB h1 hb hB,h2.below hb hB⟩
theorem IAt.lt (h:IAt w g o z):g < w.heap.size:=by
 obtain ⟨n,a,l,k,h0,_⟩:=h
 exact World.block_lt_of_cell? w _ h0
theorem RawAt.iat (h:RawAt w g o R) (hf:R.ok = true):IAt w g o R.z:=⟨_,_,_,_,h.1,h.2.1,h.2.2.intV hf⟩
theorem IntV.raw {n:Bool} {a:Option Addr} {l k:Nat} (h:IntV w (.agg #[.bool n,.slice a l k]) z) {N:Nat} (hz:len z ≤ N) (hN:N ≤ 9223372036854775807):∃ R:Raw,R.neg = n ∧ R.at_ = a ∧ R.ds.length = l ∧ R.cap = k ∧ RawOk w R ∧ R.ok = true ∧ R.z = z ∧ R.ds.length ≤ N:=by
 obtain ⟨a',c',e,hf,hd⟩:=h
 simp only [Value.agg.injEq,Array.mk.injEq,List.cons.injEq,Value.bool.injEq,Value.slice.injEq,and_true] at e
 obtain ⟨rfl,rfl,rfl,rfl⟩:=e
 have hl:(dg BB z.natAbs).length ≤ N:=hz
 refine ⟨⟨decide (z < 0),a,k,dg BB z.natAbs⟩,rfl,rfl,rfl,rfl,⟨hd,hf,Nat.le_trans hl hN⟩,rightB_dg z,?_,hl⟩
 unfold Raw.z
 rw [signZ_dg]
theorem IAt.raw (h:IAt w g o z) {N:Nat} (hz:len z ≤ N) (hN:N ≤ 9223372036854775807):∃ R:Raw,RawAt w g o R ∧ R.ok = true ∧ R.z = z ∧ R.ds.length ≤ N:=by
 obtain ⟨n,a,l,k,h0,h1,h2⟩:=h
 obtain ⟨R,rfl,rfl,rfl,rfl,h3,h4,h5,h6⟩:=h2.raw hz hN
 exact ⟨R,⟨h0,h1,h3⟩,h4,h5,h6⟩
end
def IListAt (w:World) (a:Option Addr) (xs:List Raw):Prop:=0 < xs.length → ∃ b o,a = some ⟨b,o,none⟩ ∧ ∀ i (h:i < xs.length),RawAt w b (o + i * 2) xs[i]
structure LRow where
 at_:Option Addr
 cap:Nat
 xs:List Raw
 most:Raw
def IRowAt (w:World) (g o:Nat) (r:LRow):Prop:=w.cell? ⟨g,o,none⟩ = some (.slice r.at_ r.xs.length r.cap) ∧ Fit r.at_ r.xs.length r.cap ∧ IListAt w r.at_ r.xs ∧ RawAt w g (o + 1) r.most
def IRowsAt (w:World) (a:Option Addr) (rs:List LRow):Prop:=0 < rs.length → ∃ b o,a = some ⟨b,o,none⟩ ∧ ∀ i (h:i < rs.length),IRowAt w b (o + i * 3) rs[i]
section
variable {w w':World} {g o B:Nat} {a:Option Addr} {xs:List Raw} {r:LRow} {rs:List LRow}
theorem IListAt.below (h:IListAt w a xs) (hb:Below B w w') (hB:w.heap.size ≤ B):IListAt w' a xs:=fun h0=>by
 obtain ⟨b,o,e,h1⟩:=h h0
 exact ⟨b,o,e,fun i hi=>(h1 i hi).below hb hB⟩
theorem IRowAt.below (h:IRowAt w g o r) (hb:Below B w w') (hB:w.heap.size ≤ B):IRowAt w' g o r:=
 ⟨cellB h.1 hb hB,h.2.1,h.2.2.1.below hb hB,h.2.2.2.below hb hB⟩
theorem IRowsAt.below (h:IRowsAt w a rs) (hb:Below B w w') (hB:w.heap.size ≤ B):IRowsAt w' a rs:=fun h0=>by
 obtain ⟨b,o,e,h1⟩:=h h0
 exact ⟨b,o,e,fun i hi=>(h1 i hi).below hb hB⟩
end
def LRow.right (U:Int) (r:LRow):Bool:=decide ((r.xs.length:Int) = U) && (r.most.ok && r.xs.all Raw.ok)
def rightI (U:Int) (rs:List LRow):Bool:=decide (0 ≤ U) && (decide (U ≤ 1000) && rs.all (LRow.right U))
def LRow.sz (r:LRow) (n:Nat):Prop:=r.most.ds.length ≤ n ∧ ∀ R ∈ r.xs,R.ds.length ≤ n
def timesZ (rs:List LRow) (i c:Nat):Int:=(((rs[i]?).bind (fun r=>r.xs[c]?)).map Raw.z).getD 0
def mostZ (rs:List LRow) (i:Nat):Int:=((rs[i]?).map (fun r=>r.most.z)).getD 0
def isysOf (n:Nat) (rs:List LRow):ISys where
 n:=n
 m:=rs.length
 A:=timesZ rs
 most:=mostZ rs
def IRowsV (w:World) (b o:Nat) (S:ISys):Prop:=∀ i,i < S.m → ∃ ra rk,w.cell? ⟨b,o + i * 3,none⟩ = some (.slice ra S.n rk) ∧ Fit ra S.n rk ∧ (0 < S.n → ∃ rb ro,ra = some ⟨rb,ro,none⟩ ∧ ∀ c,c < S.n → IAt w rb (ro + c * 2) (S.A i c)) ∧ IAt w b (o + i * 3 + 1) (S.most i)
theorem IRowsV.below {w w':World} {B b o:Nat} {S:ISys} (h:IRowsV w b o S) (hb:Below B w w') (hB:w.heap.size ≤ B):IRowsV w' b o S:=by
 intro i hi
 obtain ⟨ra,rk,h1,h2,h3,h4⟩:=h i hi
 refine ⟨ra,rk,cellB h1 hb hB,h2,fun hn=>?_,h4.below hb hB⟩
 obtain ⟨rb,ro,e,h5⟩:=h3 hn
 exact ⟨rb,ro,e,fun c hc=>(h5 c hc).below hb hB⟩
theorem right_irow {n:Nat} {rs:List LRow} (hr:rightI n rs = true) {i:Nat} (hi:i < rs.length):rs[i].xs.length = n ∧ rs[i].most.ok = true ∧ ∀ R ∈ rs[i].xs,R.ok = true:=by
 unfold rightI at hr
 simp only [Bool.and_eq_true,List.all_eq_true] at hr
 have h:=hr.2.2 rs[i] (List.getElem_mem hi)
 unfold LRow.right at h
 simp only [Bool.and_eq_true,List.all_eq_true,decide_eq_true_eq] at h
 exact ⟨by omega,h.2.1,h.2.2⟩
theorem IRowsAt.val {w:World} {a:Option Addr} {n:Nat} {rs:List LRow} (h:IRowsAt w a rs) (hr:rightI n rs = true) (h0:0 < rs.length):∃ b o,a = some ⟨b,o,none⟩ ∧ IRowsV w b o (isysOf n rs):=by
 obtain ⟨b,o,e,h1⟩:=h h0
 refine ⟨b,o,e,fun i hi=>?_⟩
 have hi':i < rs.length:=hi
 obtain ⟨hl,hm,hx⟩:=right_irow hr hi'
 obtain ⟨g1,g2,g3,g4⟩:=h1 i hi'
 rw [hl] at g1 g2
 refine ⟨_,_,g1,g2,fun hn=>?_,?_⟩
 ·obtain ⟨rb,ro,e2,h5⟩:=g3 (by rw [hl]; exact hn)
  refine ⟨rb,ro,e2,fun c hc=>?_⟩
  have hc':c < rs[i].xs.length:=by rw [hl]; exact hc
  have h6:=(h5 c hc').iat (hx _ (List.getElem_mem hc'))
  have e3:(isysOf n rs).A i c = rs[i].xs[c].z:=by
   show timesZ rs i c = _
   simp [timesZ,List.getElem?_eq_getElem hi',List.getElem?_eq_getElem hc']
  rw [e3]
  exact h6
 ·have e3:(isysOf n rs).most i = rs[i].most.z:=by
   show mostZ rs i = _
   simp [mostZ,List.getElem?_eq_getElem hi']
  rw [e3]
  exact g4.iat hm
theorem isys_size {n N:Nat} {rs:List LRow} (hr:rightI n rs = true) (hs:∀ r ∈ rs,r.sz N):(∀ i c,i < rs.length → c < n → len (timesZ rs i c) ≤ N) ∧ ∀ i,i < rs.length → len (mostZ rs i) ≤ N:=by
 refine ⟨fun i c hi hc=>?_,fun i hi=>?_⟩
 ·obtain ⟨hl,_,hx⟩:=right_irow hr hi
  have hc':c < rs[i].xs.length:=by rw [hl]; exact hc
  have e:timesZ rs i c = rs[i].xs[c].z:=by simp [timesZ,List.getElem?_eq_getElem hi,List.getElem?_eq_getElem hc']
  rw [e,Raw.len (hx _ (List.getElem_mem hc'))]
  exact (hs _ (List.getElem_mem hi)).2 _ (List.getElem_mem hc')
 ·obtain ⟨_,hm,_⟩:=right_irow hr hi
  have e:mostZ rs i = rs[i].most.z:=by simp [mostZ,List.getElem?_eq_getElem hi]
  rw [e,Raw.len hm]
  exact (hs _ (List.getElem_mem hi)).1
end Go.Proofs.Ytphjffbldhhdiaa
