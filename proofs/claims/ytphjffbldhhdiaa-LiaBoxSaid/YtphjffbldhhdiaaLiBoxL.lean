/- Rows of a small box, behind others. -/
import Derived.Test.YtphjffbldhhdiaaLiFitLaw
namespace Go.Proofs.Ytphjffbldhhdiaa
open Go.RowKit

def boxZ (q c:Nat):Int:=if c = q / 2 then (if q % 2 = 0 then 1 else -1) else 0
structure BoxL (W:World) (bx:List LRow) (n k g:Nat):Prop where
 len:bx.length = k
 it:∀ i (h:i < bx.length),∃ b,bx[i].at_ = some ⟨b,0,none⟩ ∧ b ≠ g ∧ b < W.heap.size ∧ bx[i].cap = n ∧ bx[i].xs.length = n ∧
  (∀ c (hc:c < bx[i].xs.length),RawAt W b (c * 2) bx[i].xs[c] ∧ bx[i].xs[c].ok = true ∧ bx[i].xs[c].z = boxZ i c ∧ bx[i].xs[c].ds.length ≤ 1) ∧
  bx[i].most.ok = true ∧ bx[i].most.z = 2 ∧ bx[i].most.ds.length ≤ 1 ∧ RawOk W bx[i].most
section
variable {W W':World} {rs bx:List LRow} {n k g g' B b:Nat} {most:Raw}
theorem BoxL.nil:BoxL W [] n 0 g:=⟨rfl,fun _ h=>absurd h (Nat.not_lt_zero _)⟩
theorem BoxL.below (h:BoxL W bx n k g) (hb:Below B W W') (hB:W.heap.size ≤ B):BoxL W' bx n k g:=⟨h.len,fun i hi=>by
 obtain ⟨b,h1,h2,h3,h4,h5,h6,h7,h8,h9,h10⟩:=h.it i hi
 exact ⟨b,h1,h2,Nat.lt_of_lt_of_le h3 hb.size,h4,h5,fun c hc=>⟨(h6 c hc).1.below hb hB,(h6 c hc).2⟩,h7,h8,h9,h10.below hb hB⟩⟩
theorem BoxL.grown (h:BoxL W bx n k g) (hg:W.grownBy W' (some g)) (hc:Calm W g) (hg':g' = g ∨ g' = W.heap.size):BoxL W' bx n k g':=⟨h.len,fun i hi=>by
 obtain ⟨b,h1,h2,h3,h4,h5,h6,h7,h8,h9,h10⟩:=h.it i hi
 have hcm:∀ g1,some g = some g1 → Calm W g1:=fun g1 e=>by obtain rfl:=Option.some.inj e; exact hc
 refine ⟨b,h1,by omega,Nat.lt_of_lt_of_le h3 hg.size,h4,h5,fun c hc=>⟨⟨?_,?_,(h6 c hc).1.2.2.grown hg hcm⟩,(h6 c hc).2⟩,h7,h8,h9,h10.grown hg hcm⟩
 ·exact hg.cell (h6 c hc).1.1 (fun e=>h2 (Option.some.inj e))
 ·exact hg.cell (h6 c hc).1.2.1 (fun e=>h2 (Option.some.inj e))⟩
theorem BoxL.snoc (h:BoxL W bx n k g) (hb:b ≠ g) (hlt:b < W.heap.size) (hx:∀ c,c < n → IAt W b (c * 2) (boxZ k c)) (ho:most.ok = true) (hz:most.z = 2) (hl:most.ds.length ≤ 1) (hm:RawOk W most) :
  ∃ xs:List Raw,xs.length = n ∧ BoxL W (bx ++ [⟨some ⟨b,0,none⟩,n,xs,most⟩]) n (k + 1) g:=by
 have hz1:∀ q c,Go.Proofs.Ytphjffbldhhdiaa.len (boxZ q c) ≤ 1:=fun q c=>by
  unfold boxZ
  split
  ·split <;> decide
  ·decide
 obtain ⟨xs,h1,h2⟩:=exists_list (p:=fun c R=>RawAt W b (c * 2) R ∧ R.ok = true ∧ R.z = boxZ k c ∧ R.ds.length ≤ 1) n (fun c hc=>(hx c hc).raw (hz1 k c) (by decide))
 refine ⟨xs,h1,by rw [List.length_append,h.len]; rfl,fun i hi=>?_⟩
 rw [List.length_append,h.len] at hi
 rcases Nat.lt_or_ge i k with hlt' | hge
 ·rw [List.getElem_append_left (by rw [h.len]; exact hlt')]
  exact h.it i (by rw [h.len]; exact hlt')
 ·have hi':i = k:=by simp at hi; omega
  subst hi'
  have e:(bx ++ [(⟨some ⟨b,0,none⟩,n,xs,most⟩:LRow)])[i]'(by rw [List.length_append,h.len]; simp) = ⟨some ⟨b,0,none⟩,n,xs,most⟩:=by
   rw [List.getElem_append_right (by rw [h.len]; exact Nat.le_refl _)]
   simp [h.len]
  rw [e]
  exact ⟨b,rfl,hb,hlt,rfl,h1,h2,ho,hz,hl,hm⟩
theorem BoxL.parts (h:BoxL W bx n k g):∀ r ∈ bx,Fit r.at_ r.xs.length r.cap ∧ IListAt W r.at_ r.xs ∧ RawOk W r.most:=fun r hr=>by
 obtain ⟨i,hi,rfl⟩:=List.mem_iff_getElem.1 hr
 obtain ⟨b,h1,h2,h3,h4,h5,h6,h7,h8,h9,h10⟩:=h.it i hi
 refine ⟨⟨by omega,fun e=>by rw [h1] at e; cases e⟩,fun _=>⟨b,0,h1,fun c hc=>?_⟩,h10⟩
 rw [Nat.zero_add]
 exact (h6 c hc).1
theorem BoxL.all (h:BoxL W bx n k g) (hp:∀ r ∈ rs,Fit r.at_ r.xs.length r.cap ∧ IListAt W r.at_ r.xs ∧ RawOk W r.most):∀ r ∈ rs ++ bx,Fit r.at_ r.xs.length r.cap ∧ IListAt W r.at_ r.xs ∧ RawOk W r.most:=fun r hr=>by
 rcases List.mem_append.1 hr with hr | hr
 ·exact hp r hr
 ·exact h.parts r hr
theorem BoxL.right (h:BoxL W bx n k g) (hr:rightI (n:Int) rs = true):rightI (n:Int) (rs ++ bx) = true:=by
 unfold rightI at hr ⊢
 simp only [Bool.and_eq_true,List.all_eq_true] at hr ⊢
 refine ⟨hr.1,hr.2.1,fun r hm=>?_⟩
 rcases List.mem_append.1 hm with hm | hm
 ·exact hr.2.2 r hm
 ·obtain ⟨i,hi,rfl⟩:=List.mem_iff_getElem.1 hm
  obtain ⟨b,h1,h2,h3,h4,h5,h6,h7,h8,h9,h10⟩:=h.it i hi
  unfold LRow.right
  simp only [Bool.and_eq_true,List.all_eq_true,decide_eq_true_eq]
  refine ⟨by omega,h7,fun R hR=>?_⟩
  obtain ⟨c,hc,rfl⟩:=List.mem_iff_getElem.1 hR
  exact (h6 c hc).2.1
theorem BoxL.xl (h:BoxL W bx n k g) (hn:n ≤ 1000000) (hr:∀ r ∈ rs,r.xs.length ≤ 1000000):∀ r ∈ rs ++ bx,r.xs.length ≤ 1000000:=fun r hm=>by
 rcases List.mem_append.1 hm with hm | hm
 ·exact hr r hm
 ·obtain ⟨i,hi,rfl⟩:=List.mem_iff_getElem.1 hm
  obtain ⟨b,h1,h2,h3,h4,h5,_⟩:=h.it i hi
  omega
theorem box_old {i c:Nat} (hi:i < rs.length):timesZ (rs ++ bx) i c = timesZ rs i c ∧ mostZ (rs ++ bx) i = mostZ rs i:=by
 unfold timesZ mostZ
 rw [List.getElem?_append_left hi]
 exact ⟨rfl,rfl⟩
theorem BoxL.new (h:BoxL W bx n k g) {q c:Nat} (hq:q < k) (hc:c < n):timesZ (rs ++ bx) (rs.length + q) c = boxZ q c ∧ mostZ (rs ++ bx) (rs.length + q) = 2:=by
 have hq':q < bx.length:=by rw [h.len]; exact hq
 obtain ⟨b,h1,h2,h3,h4,h5,h6,h7,h8,h9,h10⟩:=h.it q hq'
 have hc':c < bx[q].xs.length:=by omega
 unfold timesZ mostZ
 rw [List.getElem?_append_right (by omega),show rs.length + q - rs.length = q from by omega,List.getElem?_eq_getElem hq']
 refine ⟨?_,h8⟩
 simp only [Option.bind_some,List.getElem?_eq_getElem hc',Option.map_some,Option.getD_some]
 exact (h6 c hc').2.2.1
theorem boxZ_len (q c:Nat):Go.Proofs.Ytphjffbldhhdiaa.len (boxZ q c) ≤ 1:=by
 unfold boxZ
 split
 ·split <;> decide
 ·decide
theorem BoxL.fair (h:BoxL W bx n k g) (hk:rs.length + k ≤ 40) (hn:0 < n) (hf:LFair (isysOf n rs)):LFair (isysOf n (rs ++ bx)):=by
 have hl:(rs ++ bx).length = rs.length + k:=by rw [List.length_append,h.len]
 refine ⟨hf.n,by show (rs ++ bx).length ≤ 40; omega,⟨fun i c hi hc=>?_,fun i hi=>?_⟩⟩
 ·have hi':i < (rs ++ bx).length:=hi
  show Go.Proofs.Ytphjffbldhhdiaa.len (timesZ (rs ++ bx) i c) ≤ 1
  rcases Nat.lt_or_ge i rs.length with h1 | h1
  ·rw [(box_old h1).1]
   exact hf.sz.A i c h1 hc
  ·obtain ⟨q,rfl⟩:∃ q,i = rs.length + q:=⟨i - rs.length,by omega⟩
   rw [(h.new (by omega) hc).1]
   exact boxZ_len q c
 ·have hi':i < (rs ++ bx).length:=hi
  show Go.Proofs.Ytphjffbldhhdiaa.len (mostZ (rs ++ bx) i) ≤ 100
  rcases Nat.lt_or_ge i rs.length with h1 | h1
  ·rw [(box_old (c:=0) h1).2]
   exact hf.sz.most i h1
  ·obtain ⟨q,rfl⟩:∃ q,i = rs.length + q:=⟨i - rs.length,by omega⟩
   rw [(h.new (by omega) hn).2]
   decide
theorem boxZ_sum {q:Nat} (hq:q < 2 * n) (x:Nat → Rat):(sumR n fun c=>((boxZ q c:Int):Rat) * x c) = (if q % 2 = 0 then x (q / 2) else -x (q / 2)):=by
 have hv:q / 2 < n:=by omega
 rw [sumR_one hv (fun c hc hne=>by
  have e:boxZ q c = 0:=if_neg hne
  rw [e]
  show ((0:Int):Rat) * x c = 0
  rw [show ((0:Int):Rat) = 0 from rfl]
  grind)]
 have e:boxZ q (q / 2) = if q % 2 = 0 then 1 else -1:=if_pos rfl
 rw [e]
 split
 ·rw [show ((1:Int):Rat) = 1 from rfl]; grind
 ·rw [show (((-1:Int):Int):Rat) = -1 from rfl]; grind
theorem BoxL.sum (h:BoxL W bx n (2 * n) g) {q:Nat} (hq:q < 2 * n) (x:Nat → Rat):(sumR n fun c=>((timesZ (rs ++ bx) (rs.length + q) c:Int):Rat) * x c) = (if q % 2 = 0 then x (q / 2) else -x (q / 2)):=by
 rw [← boxZ_sum hq x]
 exact sumR_congr fun c hc=>by rw [(h.new hq hc).1]
theorem BoxL.rows (h:BoxL W bx n (2 * n) g) (hn:0 < n) (p:Nat → Int):(∀ i,i < (isysOf n (rs ++ bx)).m → (isysOf n (rs ++ bx)).Row p i) ↔ (∀ i,i < rs.length → (isysOf n rs).Row p i) ∧ ∀ v,v < n → -(2:Int) ≤ p v ∧ p v ≤ 2:=by
 have hm:(isysOf n (rs ++ bx)).m = rs.length + 2 * n:=by
  show (rs ++ bx).length = _
  rw [List.length_append,h.len]
 have hold:∀ i,i < rs.length → ((isysOf n (rs ++ bx)).Row p i ↔ (isysOf n rs).Row p i):=fun i hi=>row_same rfl (fun c _=>(box_old hi).1) (box_old (c:=0) hi).2 (fun _ _=>rfl)
 have hnew:∀ q,q < 2 * n → ((isysOf n (rs ++ bx)).Row p (rs.length + q) ↔ if q % 2 = 0 then p (q / 2) ≤ 2 else -(p (q / 2)) ≤ 2):=fun q hq=>by
  have e1:(isysOf n (rs ++ bx)).most (rs.length + q) = 2:=(h.new hq hn).2
  have e2:(sumR (isysOf n (rs ++ bx)).n fun c=>(((isysOf n (rs ++ bx)).A (rs.length + q) c:Int):Rat) * ((p c:Int):Rat)) = (if q % 2 = 0 then ((p (q / 2):Int):Rat) else -((p (q / 2):Int):Rat)):=h.sum hq fun c=>((p c:Int):Rat)
  unfold ISys.Row
  rw [e1,e2]
  split
  ·exact cast_le
  ·rw [← Rat.intCast_neg]
   exact cast_le
 rw [hm]
 constructor
 ·intro hp
  refine ⟨fun i hi=>(hold i hi).1 (hp i (by omega)),fun v hv=>?_⟩
  have h1:=(hnew (2 * v) (by omega)).1 (hp _ (by omega))
  have h2:=(hnew (2 * v + 1) (by omega)).1 (hp _ (by omega))
  rw [if_pos (by omega),show 2 * v / 2 = v from by omega] at h1
  rw [if_neg (by omega),show (2 * v + 1) / 2 = v from by omega] at h2
  omega
 ·rintro ⟨h1,h2⟩ i hi
  rcases Nat.lt_or_ge i rs.length with h3 | h3
  ·exact (hold i h3).2 (h1 i h3)
  ·obtain ⟨q,rfl⟩:∃ q,i = rs.length + q:=⟨i - rs.length,by omega⟩
   have h4:=h2 (q / 2) (by omega)
   refine (hnew q (by omega)).2 ?_
   split
   ·exact h4.2
   ·omega
theorem BoxL.fits (h:BoxL W bx n (2 * n) g) (hn:0 < n) {st:LS} {x:Nat → Rat} (hx:(LS.sys (isysOf n (rs ++ bx)) st).Fits x):∀ v,v < (isysOf n (rs ++ bx)).n → (-2:Rat) ≤ x v ∧ x v ≤ 2:=fun v hv=>by
 have hv':v < n:=hv
 have hm:(isysOf n (rs ++ bx)).m = rs.length + 2 * n:=by
  show (rs ++ bx).length = _
  rw [List.length_append,h.len]
 have key:∀ q,q < 2 * n → (if q % 2 = 0 then x (q / 2) else -x (q / 2)) ≤ 2:=fun q hq=>by
  have hi:rs.length + q < (isysOf n (rs ++ bx)).m:=by omega
  have h1:=hx (rs.length + q) (by
   show rs.length + q < (isysOf n (rs ++ bx)).m + _
   omega)
  have e1:(sumR (isysOf n (rs ++ bx)).n fun c=>((isysOf n (rs ++ bx)).all (bRows st.floor st.top (isysOf n (rs ++ bx)).n)).A (rs.length + q) c * x c) = _:=all_sum (x:=x) hi
  have e2:((isysOf n (rs ++ bx)).all (bRows st.floor st.top (isysOf n (rs ++ bx)).n)).most (rs.length + q) = _:=all_most hi
  have e3:(isysOf n (rs ++ bx)).most (rs.length + q) = 2:=(h.new hq hn).2
  have e4:(sumR (isysOf n (rs ++ bx)).n fun c=>(((isysOf n (rs ++ bx)).A (rs.length + q) c:Int):Rat) * x c) = _:=h.sum hq x
  have h2:(sumR (isysOf n (rs ++ bx)).n fun c=>((isysOf n (rs ++ bx)).all (bRows st.floor st.top (isysOf n (rs ++ bx)).n)).A (rs.length + q) c * x c) ≤ ((isysOf n (rs ++ bx)).all (bRows st.floor st.top (isysOf n (rs ++ bx)).n)).most (rs.length + q):=h1
  rw [e1,e2,e3,e4] at h2
  exact h2
 have h1:=key (2 * v) (by omega)
 have h2:=key (2 * v + 1) (by omega)
 rw [if_pos (by omega),show 2 * v / 2 = v from by omega] at h1
 rw [if_neg (by omega),show (2 * v + 1) / 2 = v from by omega] at h2
 constructor <;> grind
end
theorem BoxL.law {W:World} {rs bx:List LRow} {n g:Nat} (h:BoxL W bx n (2 * n) g) (hn:0 < n) (h3:n ≤ 3) {vd us:Int} {vs:List Int} {rw:List Nat} (ho:LOut (isysOf n (rs ++ bx)) 5000 vd us vs rw):(vd = 1 ↔ nearB rs 2 n [] = true) ∧ (vd = 2 ↔ nearB rs 2 n [] = false):=
 box_law rfl h3 (h.rows hn) (fun _ _ hx=>h.fits hn hx) ho
end Go.Proofs.Ytphjffbldhhdiaa
