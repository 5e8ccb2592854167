/- Rows with other numbers at their ends. -/
import Derived.Test.YtphjffbldhhdiaaLiLead
import Derived.Test.YtphjffbldhhdiaaLiRows
import Derived.Test.YtphjffbldhhdiaaLiLaw
import Derived.Test.YtphjffbldhhdiaaLiMake
namespace Go.Proofs.Ytphjffbldhhdiaa
open Go.RowKit

def sumI:Nat → (Nat → Int) → Int
 | 0,_=>0
 | n + 1,f=>sumI n f + f n
theorem sumI_cast (f:Nat → Int):∀ n,((sumI n f:Int):Rat) = sumR n fun c=>((f c:Int):Rat)
 | 0=>rfl
 | n + 1=>by
  show ((sumI n f + f n:Int):Rat) = sumR n (fun c=>((f c:Int):Rat)) + ((f n:Int):Rat)
  rw [Rat.intCast_add,sumI_cast f n]
structure NewL (W:World) (rs ls:List LRow) (j:Nat) (z:Nat → Int):Prop where
 len:ls.length = j
 it:∀ i (h:i < ls.length) (h2:i < rs.length),ls[i].at_ = rs[i].at_ ∧ ls[i].cap = rs[i].cap ∧ ls[i].xs = rs[i].xs ∧ ls[i].most.ok = true ∧ ls[i].most.z = z i ∧ ls[i].most.ds.length ≤ 20 ∧ RawOk W ls[i].most
section
variable {W W':World} {rs ls:List LRow} {j B N n:Nat} {z:Nat → Int} {U:Int} {t:TypeId}
theorem NewL.nil:NewL W rs [] 0 z:=⟨rfl,fun _ h=>absurd h (Nat.not_lt_zero _)⟩
theorem NewL.below (h:NewL W rs ls j z) (hb:Below B W W') (hB:W.heap.size ≤ B):NewL W' rs ls j z:=⟨h.len,fun i h1 h2=>by
 obtain ⟨a,b,c,d,e,f,g⟩:=h.it i h1 h2
 exact ⟨a,b,c,d,e,f,g.below hb hB⟩⟩
theorem RawOk.grown {w w':World} {R:Raw} {row:Option Nat} (h:RawOk w R) (hg:w.grownBy w' row) (hc:∀ g,row = some g → Calm w g):RawOk w' R:=⟨fun hn=>by
 obtain ⟨b,off,e,hcc⟩:=h.dig hn
 exact ⟨b,off,e,fun j hj=>hg.cell (hcc j hj) (fun e=>hc b e.symm _ _ (hcc j hj))⟩,h.fit,h.max⟩
theorem NewL.grown {row:Option Nat} (h:NewL W rs ls j z) (hg:W.grownBy W' row) (hc:∀ g,row = some g → Calm W g):NewL W' rs ls j z:=⟨h.len,fun i h1 h2=>by
 obtain ⟨a,b,c,d,e,f,g⟩:=h.it i h1 h2
 exact ⟨a,b,c,d,e,f,g.grown hg hc⟩⟩
theorem NewL.snoc (h:NewL W rs ls j z) {r:LRow} (hj:j < rs.length) (hr:rs[j] = r) {m:Raw} (hm:RawOk W m) (ho:m.ok = true) (hz:m.z = z j) (hl:m.ds.length ≤ 20):NewL W rs (ls ++ [⟨r.at_,r.cap,r.xs,m⟩]) (j + 1) z:=by
 refine ⟨by rw [List.length_append,h.len]; rfl,fun i h1 h2=>?_⟩
 rw [List.length_append,h.len] at h1
 rcases Nat.lt_or_ge i j with hlt | hge
 ·rw [List.getElem_append_left (by rw [h.len]; exact hlt)]
  exact h.it i (by rw [h.len]; exact hlt) h2
 ·have hi:i = j:=by simp at h1; omega
  subst hi
  have e:(ls ++ [(⟨r.at_,r.cap,r.xs,m⟩:LRow)])[i]'(by rw [List.length_append,h.len]; simp) = ⟨r.at_,r.cap,r.xs,m⟩:=by
   rw [List.getElem_append_right (by rw [h.len]; exact Nat.le_refl _)]
   simp [h.len]
  rw [e,hr]
  exact ⟨rfl,rfl,rfl,ho,hz,hl,hm⟩
theorem NewL.rows {g c:Nat} {a:Option Addr} (h:NewL W rs ls rs.length z) (hm:MadeI W N t (.slice (some ⟨g,0,none⟩) rs.length c) ls) (hx:IRowsAt W a rs):IRowsAt W (some ⟨g,0,none⟩) ls:=fun h0=>by
 have hlen:=h.len
 have hm':W.ownsRow N t 3 (.slice (some ⟨g,0,none⟩) rs.length c) rs.length (ls.flatMap LRow.cells):=by
  unfold MadeI at hm
  rw [hlen] at hm
  exact hm
 refine ⟨g,0,rfl,fun i hi=>?_⟩
 obtain ⟨g',cs,e,_,hblk,hcs⟩:=own_cells hm' (by omega)
 obtain rfl:g = g':=by injection e with e; injection e
 have hi2:i < rs.length:=by omega
 have hcell:∀ d,d < 3 → W.cell? ⟨g,0 + i * 3 + d,none⟩ = (ls[i]).cells[d]?:=fun d hd=>by
  rw [Nat.zero_add,hblk.cell,hcs _ (by omega),LRow.cells_at ls i hi d hd]
 obtain ⟨b,o,_,hr⟩:=hx (by omega)
 obtain ⟨_,r2,r3,_⟩:=hr i hi2
 obtain ⟨e1,e2,e3,_,_,_,hok⟩:=h.it i hi hi2
 refine ⟨hcell 0 (by decide),?_,?_,hcell 1 (by decide),hcell 2 (by decide),hok⟩
 ·rw [e1,e2,e3]; exact r2
 ·rw [e1,e3]; exact r3
theorem NewL.right (h:NewL W rs ls rs.length z) (hr:rightI U rs = true):rightI U ls = true:=by
 unfold rightI at hr ⊢
 simp only [Bool.and_eq_true,List.all_eq_true] at hr ⊢
 refine ⟨hr.1,hr.2.1,fun r hm=>?_⟩
 obtain ⟨i,hi,rfl⟩:=List.mem_iff_getElem.1 hm
 have hi2:i < rs.length:=by have:=h.len; omega
 obtain ⟨_,_,e3,e4,_⟩:=h.it i hi hi2
 have h1:=hr.2.2 rs[i] (List.getElem_mem hi2)
 unfold LRow.right at h1 ⊢
 simp only [Bool.and_eq_true] at h1 ⊢
 rw [e3]
 exact ⟨h1.1,e4,h1.2.2⟩
theorem NewL.times (h:NewL W rs ls rs.length z) (i c:Nat):timesZ ls i c = timesZ rs i c:=by
 unfold timesZ
 by_cases hi:i < rs.length
 ·have hi1:i < ls.length:=by have:=h.len; omega
  rw [List.getElem?_eq_getElem hi,List.getElem?_eq_getElem hi1]
  simp [(h.it i hi1 hi).2.2.1]
 ·rw [List.getElem?_eq_none (by have:=h.len; omega),List.getElem?_eq_none (by have:=h.len; omega)]
theorem NewL.mosts (h:NewL W rs ls rs.length z) {i:Nat} (hi:i < rs.length):mostZ ls i = z i:=by
 have hi1:i < ls.length:=by have:=h.len; omega
 unfold mostZ
 rw [List.getElem?_eq_getElem hi1]
 simp [(h.it i hi1 hi).2.2.2.2.1]
theorem NewL.fair (h:NewL W rs ls rs.length z) (hf:LFair (isysOf n rs)):LFair (isysOf n ls):=by
 have hl:=h.len
 have hm:rs.length ≤ 40:=hf.m
 refine ⟨hf.n,by show ls.length ≤ 40; omega,⟨fun i c hi hc=>?_,fun i hi=>?_⟩⟩
 ·have hi':i < ls.length:=hi
  show Go.Proofs.Ytphjffbldhhdiaa.len (timesZ ls i c) ≤ 1
  rw [h.times]
  exact hf.sz.A i c (by show i < rs.length; omega) hc
 ·have hi':i < ls.length:=hi
  have hi2:i < rs.length:=by omega
  obtain ⟨_,_,_,e4,e5,e6,_⟩:=h.it i hi' hi2
  show Go.Proofs.Ytphjffbldhhdiaa.len (mostZ ls i) ≤ 100
  rw [h.mosts hi2,← e5,Raw.len e4]
  omega
theorem NewL.xl (h:NewL W rs ls rs.length z) (hr:∀ r ∈ rs,r.xs.length ≤ 1000000):∀ r ∈ ls,r.xs.length ≤ 1000000:=fun r hm=>by
 obtain ⟨i,hi,rfl⟩:=List.mem_iff_getElem.1 hm
 have hi2:i < rs.length:=by have:=h.len; omega
 rw [(h.it i hi hi2).2.2.1]
 exact hr _ (List.getElem_mem hi2)
end
def valZ (xs:List Raw) (c:Nat):Int:=((xs[c]?).map Raw.z).getD 0
theorem valZ_at {xs:List Raw} {c:Nat} (h:c < xs.length):valZ xs c = xs[c].z:=by
 unfold valZ
 rw [List.getElem?_eq_getElem h]
 rfl
theorem valZ_len {xs:List Raw} (h:∀ R ∈ xs,R.ok = true) (hs:∀ R ∈ xs,R.ds.length ≤ 1) (c:Nat):len (valZ xs c) ≤ 1:=by
 by_cases hc:c < xs.length
 ·rw [valZ_at hc,Raw.len (h _ (List.getElem_mem hc))]
  exact hs _ (List.getElem_mem hc)
 ·unfold valZ
  rw [List.getElem?_eq_none (by omega)]
  exact Nat.zero_le _
theorem times_val {rs:List LRow} {j:Nat} {r:LRow} (hj:j < rs.length) (hr:rs[j] = r) (c:Nat):timesZ rs j c = valZ r.xs c:=by
 unfold timesZ valZ
 rw [List.getElem?_eq_getElem hj,hr]
 rfl
theorem infoLRow:(Try.prog.info? 48).map (fun i=>(i.zero,i.size,i.bytes)) = some (some (.agg #[.slice none 0 0,.bool false,.slice none 0 0]),3,56):=by kernel_rfl
theorem lrow_calm (a b:Option Addr) (l c i j:Nat) (n:Bool):∀ u ∈ [Value.slice a l c,.bool n,.slice b i j],NoU u:=fun u hu=>by
 simp only [List.mem_cons,List.not_mem_nil,or_false] at hu
 rcases hu with rfl | rfl | rfl
 ·exact NoU.slice _ _ _
 ·exact NoU.bool _
 ·exact NoU.slice _ _ _
theorem zeroLRow_calm:∀ u ∈ (Value.agg #[.slice none 0 0,.bool false,.slice none 0 0]).cells,NoU u:=fun u hu=>by
 have h:u ∈ [Value.slice none 0 0,.bool false,.slice none 0 0]:=by simpa [Value.cells] using hu
 exact lrow_calm none none 0 0 0 0 false u h
def zRaw:Raw:=⟨false,none,0,[]⟩
theorem zRaw_ok (w:World):RawOk w zRaw:=⟨Dg.nil _ _,⟨Nat.le_refl _,fun _=>rfl⟩,by decide⟩
theorem one_row {w:World} {g:Nat} {t:TypeId} {a:Option Addr} {xs:List Raw} {c:Nat} (hb:Blk w g t #[.slice a xs.length c,.bool false,.slice none 0 0]) (hf:Fit a xs.length c) (hx:IListAt w a xs):IRowsAt w (some ⟨g,0,none⟩) [⟨a,c,xs,zRaw⟩]:=fun _=>⟨g,0,rfl,fun i hi=>by
 obtain rfl:i = 0:=by simpa using hi
 exact ⟨hb.cell 0,hf,hx,hb.cell 1,hb.cell 2,zRaw_ok w⟩⟩
theorem one_right {U:Int} {a:Option Addr} {xs:List Raw} {c:Nat} (h:rightI U [⟨a,c,xs,zRaw⟩] = true):(xs.length:Int) = U ∧ ∀ R ∈ xs,R.ok = true:=by
 unfold rightI at h
 simp only [Bool.and_eq_true,List.all_eq_true] at h
 have h1:=h.2.2 _ (List.mem_cons_self ..)
 unfold LRow.right at h1
 simp only [Bool.and_eq_true,List.all_eq_true,decide_eq_true_eq] at h1
 exact ⟨h1.1,h1.2.2⟩
theorem rows_take {w:World} {a:Option Addr} {rs:List LRow} (h:IRowsAt w a rs) (k:Nat):IRowsAt w a (rs.take k):=fun h0=>by
 rw [List.length_take] at h0
 obtain ⟨b,o,e,h1⟩:=h (by omega)
 refine ⟨b,o,e,fun i hi=>?_⟩
 rw [List.getElem_take]
 exact h1 i (by rw [List.length_take] at hi; omega)
theorem right_take {U:Int} {rs:List LRow} (h:rightI U rs = true) (k:Nat):rightI U (rs.take k) = true:=by
 unfold rightI at h ⊢
 simp only [Bool.and_eq_true,List.all_eq_true] at h ⊢
 exact ⟨h.1,h.2.1,fun r hr=>h.2.2 r (List.mem_of_mem_take hr)⟩
theorem take_times {rs:List LRow} {k i c:Nat} (hi:i < k):timesZ (rs.take k) i c = timesZ rs i c ∧ mostZ (rs.take k) i = mostZ rs i:=by
 unfold timesZ mostZ
 rw [List.getElem?_take_of_lt hi]
 exact ⟨rfl,rfl⟩
theorem take_row {n k i:Nat} {rs:List LRow} {p:Nat → Int} (hi:i < k):(isysOf n (rs.take k)).Row p i ↔ (isysOf n rs).Row p i:=
 row_same rfl (fun _ _=>(take_times hi).1) (take_times (c:=0) hi).2 (fun _ _=>rfl)
end Go.Proofs.Ytphjffbldhhdiaa
