/- What the laws of collatorlaw18 ask of tried integers: plain. -/
import Derived.Test.YtphjffbldhhdiaaLiNear
import Derived.Test.YtphjffbldhhdiaaLiBox
namespace Go.Proofs.Ytphjffbldhhdiaa

theorem row_fit {rs:List LRow} {vs:List Int} {n i:Nat} (hn:vs.length = n):(isysOf n rs).Row (nthI vs) i ↔ fitZ rs vs i ≤ mostZ rs i:=by
 have e2:((isysOf n rs).most i) = mostZ rs i:=rfl
 have e3:(isysOf n rs).n = n:=rfl
 have e4:(sumR n fun c=>(((isysOf n rs).A i c:Int):Rat) * ((nthI vs c:Int):Rat)) = ((sumI n (fun c=>timesZ rs i c * nthI vs c):Int):Rat):=by
  rw [sumI_cast]
  refine sumR_congr fun c _=>?_
  have e5:(isysOf n rs).A i c = timesZ rs i c:=rfl
  rw [e5,Rat.intCast_mul]
 unfold ISys.Row fitZ
 rw [e3,e4,e2,cast_le,hn]
theorem row_near {S:ISys} {p q:Nat → Int} {i:Nat} (h:∀ c,c < S.n → p c = q c):S.Row p i ↔ S.Row q i:=row_same rfl (fun _ _=>rfl) rfl (fun c hc=>h c hc)
theorem nthI_map {z:Nat → Int} {n c:Nat} (hc:c < n):nthI ((List.range n).map z) c = z c:=by
 rw [nthI_at (by simpa using hc)]
 simp
theorem sat_fits {rs:List LRow} {n:Nat} {f vd us:Int} {vs:List Int} {rw:List Nat} (h:LOut (isysOf n rs) f vd us vs rw) (hv:vd = 1):vs.length = n ∧ rw = [] ∧ fitsB rs vs = true:=by
 obtain ⟨z,hz,rfl,hr⟩:=h.sat hv
 have hl:((List.range n).map z).length = n:=by simp
 refine ⟨hl,hr,fitsB_true fun i hi=>(row_fit hl).1 ((row_near (fun c hc=>nthI_map (z:=z) hc)).2 (hz i hi))⟩
def fewL (rs:List LRow) (l:List Nat):List LRow:=l.filterMap fun i=>rs[i]?
theorem few_len {rs:List LRow}:∀ {l:List Nat},(∀ i ∈ l,i < rs.length) → (fewL rs l).length = l.length ∧ ∀ k (hk:k < l.length),(fewL rs l)[k]? = rs[l[k]]?
 | [],_=>⟨rfl,fun k hk=>absurd hk (Nat.not_lt_zero _)⟩
 | i :: l,h=>by
  have hi:=h i (List.mem_cons_self ..)
  obtain ⟨h1,h2⟩:=few_len (l:=l) (fun j hj=>h j (List.mem_cons_of_mem _ hj))
  have e:fewL rs (i :: l) = rs[i] :: fewL rs l:=by
   unfold fewL
   rw [List.filterMap_cons,List.getElem?_eq_getElem hi]
  rw [e]
  refine ⟨by simp [h1],fun k hk=>?_⟩
  match k,hk with
  | 0,_=>simp [List.getElem?_eq_getElem hi]
  | k + 1,hk=>simpa using h2 k (by simpa using hk)
theorem few_fit {rs:List LRow} {l:List Nat} (hl:∀ i ∈ l,i < rs.length) {vs:List Int} (h:fitsB (fewL rs l) vs = true):∀ i,i ∈ l → fitZ rs vs i ≤ mostZ rs i:=fun i hi=>by
 obtain ⟨k,hk,rfl⟩:=List.mem_iff_getElem.1 hi
 obtain ⟨h1,h2⟩:=few_len hl
 have h3:=List.all_eq_true.1 h k (List.mem_range.2 (by omega))
 have h4:=of_decide_eq_true h3
 have e1:∀ c,timesZ (fewL rs l) k c = timesZ rs l[k] c:=fun c=>by unfold timesZ; rw [h2 k hk]
 have e2:mostZ (fewL rs l) k = mostZ rs l[k]:=by unfold mostZ; rw [h2 k hk]
 have e3:fitZ (fewL rs l) vs k = fitZ rs vs l[k]:=by
  unfold fitZ
  congr 1
  funext c
  rw [e1]
 rw [e2,e3] at h4
 exact h4
theorem unsat_near {rs:List LRow} {n N:Nat} {f vd us:Int} {vs:List Int} {rw:List Nat} (h:LOut (isysOf n rs) f vd us vs rw) (hv:vd = 2) (hl:∀ i ∈ rw,i < rs.length):nearB (fewL rs rw) N n [] = false:=by
 refine Bool.eq_false_iff.2 fun hn=>?_
 obtain ⟨ws,hw,_,hf⟩:=near_iff.1 hn
 rw [List.nil_append] at hf
 exact h.unsat hv (nthI ws) (fun i hi=>(row_fit hw).2 (few_fit hl hf i hi))
theorem near_box {rs:List LRow} {n N:Nat}:nearB rs N n [] = true ↔ ∃ p:Nat → Int,(∀ i,i < rs.length → (isysOf n rs).Row p i) ∧ ∀ v,v < n → -(N:Int) ≤ p v ∧ p v ≤ N:=by
 rw [near_iff]
 constructor
 ·rintro ⟨ws,hw,hb,hf⟩
  rw [List.nil_append] at hf
  refine ⟨nthI ws,fun i hi=>(row_fit hw).2 (of_decide_eq_true (List.all_eq_true.1 hf i (List.mem_range.2 hi))),fun v hv=>?_⟩
  rw [nthI_at (by omega)]
  exact hb _ (List.getElem_mem (by omega))
 ·rintro ⟨p,hp,hb⟩
  have hl:((List.range n).map p).length = n:=by simp
  refine ⟨(List.range n).map p,hl,fun v hv=>?_,?_⟩
  ·obtain ⟨c,hc,rfl⟩:=List.mem_map.1 hv
   exact hb c (List.mem_range.1 hc)
  ·rw [List.nil_append]
   exact fitsB_true fun i hi=>(row_fit hl).1 ((row_near (fun c hc=>nthI_map (z:=p) hc)).2 (hp i hi))
theorem box_law {rs:List LRow} {n:Nat} {S:ISys} (hn:S.n = n) (h3:n ≤ 3) (hrow:∀ p:Nat → Int,(∀ i,i < S.m → S.Row p i) ↔ (∀ i,i < rs.length → (isysOf n rs).Row p i) ∧ ∀ v,v < n → -(2:Int) ≤ p v ∧ p v ≤ 2)
  (hfit:∀ st x,(LS.sys S st).Fits x → ∀ v,v < S.n → (-2:Rat) ≤ x v ∧ x v ≤ 2) {vd us:Int} {vs:List Int} {rw:List Nat} (h:LOut S 5000 vd us vs rw):(vd = 1 ↔ nearB rs 2 n [] = true) ∧ (vd = 2 ↔ nearB rs 2 n [] = false):=by
 have hnear:nearB rs 2 n [] = true ↔ ∃ p:Nat → Int,∀ i,i < S.m → S.Row p i:=by
  rw [near_box]
  constructor
  ·rintro ⟨p,h1,h2⟩
   exact ⟨p,(hrow p).2 ⟨h1,h2⟩⟩
  ·rintro ⟨p,hp⟩
   exact ⟨p,(hrow p).1 hp⟩
 have h0:vd ≠ 0:=fun hv=>by
  obtain ⟨t,j,hr,h⟩:=h
  have hs:=hr.short (by omega) hfit
  rcases h with ⟨z,hf,hj,e,_⟩ | ⟨nd,hf,hj,e,_⟩ | ⟨hj,e,_⟩
  ·omega
  ·omega
  ·omega
 rcases h.kind with hv | hv | hv
 ·exact (h0 hv).elim
 ·obtain ⟨z,hz,_⟩:=h.sat hv
  have ht:=hnear.2 ⟨z,hz⟩
  exact ⟨⟨fun _=>ht,fun _=>hv⟩,⟨fun h2=>by omega,fun h2=>by rw [ht] at h2; cases h2⟩⟩
 ·have hf:nearB rs 2 n [] = false:=Bool.eq_false_iff.2 fun ht=>by
   obtain ⟨p,hp⟩:=hnear.1 ht
   exact h.unsat_all hv p hp
  exact ⟨⟨fun h1=>by omega,fun h1=>by rw [hf] at h1; cases h1⟩,⟨fun _=>hf,fun _=>hv⟩⟩
open Go.RowKit
theorem MadeI.rows3 {W:World} {N g c:Nat} {t:TypeId} {ls:List LRow} (h:MadeI W N t (.slice (some ⟨g,0,none⟩) ls.length c) ls) (hr:∀ r ∈ ls,Fit r.at_ r.xs.length r.cap ∧ IListAt W r.at_ r.xs ∧ RawOk W r.most):IRowsAt W (some ⟨g,0,none⟩) ls:=fun h0=>by
 refine ⟨g,0,rfl,fun i hi=>?_⟩
 obtain ⟨g',cs,e,_,hblk,hcs⟩:=own_cells h (by omega)
 obtain rfl:g = g':=by injection e with e; injection e
 have hcell:∀ d,d < 3 → W.cell? ⟨g,0 + i * 3 + d,none⟩ = (ls[i]).cells[d]?:=fun d hd=>by
  rw [Nat.zero_add,hblk.cell,hcs _ (by omega),LRow.cells_at ls i hi d hd]
 obtain ⟨r2,r3,m5⟩:=hr _ (List.getElem_mem hi)
 exact ⟨hcell 0 (by decide),r2,r3,hcell 1 (by decide),hcell 2 (by decide),m5⟩
theorem few_mem {rs:List LRow} {l:List Nat} {r:LRow} (h:r ∈ fewL rs l):r ∈ rs:=by
 obtain ⟨i,_,hi⟩:=List.mem_filterMap.1 h
 exact List.mem_of_getElem? hi
theorem few_right {U:Int} {rs:List LRow} {l:List Nat} (h:rightI U rs = true):rightI U (fewL rs l) = true:=by
 unfold rightI at h ⊢
 simp only [Bool.and_eq_true,List.all_eq_true] at h ⊢
 exact ⟨h.1,h.2.1,fun r hr=>h.2.2 r (few_mem hr)⟩
theorem few_next {rs:List LRow} {l:List Nat} {i:Nat} (hi:i < l.length) (hl:l[i] < rs.length):fewL rs (l.take (i + 1)) = fewL rs (l.take i) ++ [rs[l[i]]]:=by
 rw [List.take_succ_eq_append_getElem hi]
 unfold fewL
 rw [List.filterMap_append]
 simp [List.getElem?_eq_getElem hl]
theorem rows_parts {W:World} {a:Option Addr} {rs:List LRow} (h:IRowsAt W a rs):∀ r ∈ rs,Fit r.at_ r.xs.length r.cap ∧ IListAt W r.at_ r.xs ∧ RawOk W r.most:=fun r hr=>by
 obtain ⟨i,hi,rfl⟩:=List.mem_iff_getElem.1 hr
 obtain ⟨b,o,_,h1⟩:=h (by omega)
 obtain ⟨_,h2,h3,_,_,h4⟩:=h1 i hi
 exact ⟨h2,h3,h4⟩
end Go.Proofs.Ytphjffbldhhdiaa
