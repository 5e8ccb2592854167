/- The document's example: plain. -/
import Derived.Test.YtphjffbldhhdiaaLiPush
import Derived.Test.YtphjffbldhhdiaaLiReasons
namespace Go.Proofs.Ytphjffbldhhdiaa

theorem spk_row0 {S:ISys} (hn:S.n = 1) (a0:S.A 0 0 = 2) (b0:S.most 0 = 1) {p:Nat → Int}:S.Row p 0 ↔ 2 * p 0 ≤ 1:=by
 unfold ISys.Row
 rw [hn,b0,← cast_le]
 simp only [sumR,a0]
 rw [Rat.intCast_mul,Rat.zero_add]
theorem spk_row1 {S:ISys} (hn:S.n = 1) (a1:S.A 1 0 = -2) (b1:S.most 1 = -1) {p:Nat → Int}:S.Row p 1 ↔ -2 * p 0 ≤ -1:=by
 unfold ISys.Row
 rw [hn,b1,← cast_le]
 simp only [sumR,a1]
 rw [Rat.intCast_mul,Rat.zero_add]
section
variable {S:ISys} (hn:S.n = 1) (hm:S.m = 2) (a0:S.A 0 0 = 2) (a1:S.A 1 0 = -2) (b0:S.most 0 = 1) (b1:S.most 1 = -1)
include hn a0 a1 b0 b1
include hm
theorem spk_fits {st:LS} {x:Nat → Rat} (h:(st.sys S).Fits x):x 0 = 1 / 2:=by
 have h0:=h 0 (by show 0 < S.m + _; omega)
 have h1:=h 1 (by show 1 < S.m + _; omega)
 have e0:(sumR S.n fun c=>(st.sys S).A 0 c * x c) = sumR S.n fun c=>((S.A 0 c:Int):Rat) * x c:=all_sum (by omega)
 have e1:(sumR S.n fun c=>(st.sys S).A 1 c * x c) = sumR S.n fun c=>((S.A 1 c:Int):Rat) * x c:=all_sum (by omega)
 have m0:(st.sys S).most 0 = ((S.most 0:Int):Rat):=all_most (by omega)
 have m1:(st.sys S).most 1 = ((S.most 1:Int):Rat):=all_most (by omega)
 have h0':(sumR S.n fun c=>(st.sys S).A 0 c * x c) ≤ (st.sys S).most 0:=h0
 have h1':(sumR S.n fun c=>(st.sys S).A 1 c * x c) ≤ (st.sys S).most 1:=h1
 rw [e0,m0,hn,b0] at h0'
 rw [e1,m1,hn,b1] at h1'
 simp only [sumR,a0] at h0'
 simp only [sumR,a1] at h1'
 rw [show ((2:Int):Rat) = 2 from rfl,show ((1:Int):Rat) = 1 from rfl] at h0'
 rw [show ((-2:Int):Rat) = -2 from rfl,show ((-1:Int):Rat) = -1 from rfl] at h1'
 grind
theorem spk_short {t:Nat → LS} {j:Nat} (hr:LRun S t j):j ≤ 2:=by
 rcases Nat.lt_or_ge 2 j with hj | hj
 ·exfalso
  have hv0:∀ {v},v < S.n → v = 0:=fun h=>by omega
  rcases hr.2 0 (by omega) with ⟨y,ks,f,u,hy,hb,_⟩ | ⟨x,v,hx,hv,hd,_,e1⟩
  ·rw [hr.1] at hb
   cases hb
  ·obtain rfl:=hv0 hv
   have hx0:=spk_fits hn hm a0 a1 b0 b1 hx.fits
   have hfl:(x 0).floor = 0:=by rw [hx0]; decide +kernel
   rw [hr.1,hfl] at e1
   rcases hr.2 1 (by omega) with ⟨y,ks,f,u,hy,hb,e2⟩ | ⟨x,v,hx,hv,hd,_,e2⟩
   ·rw [e1] at hb
    have hb':some ([⟨0,0,true,none⟩],put (fun _=>none) 0 (some (0 + 1)),put (put (fun _=>none) 0 (some 0)) 0 none) = some (ks,f,u):=hb
    injection hb' with hb'
    injection hb' with hb1 hb'
    injection hb' with hb2 hb3
    subst hb1 hb2 hb3
    rcases hr.2 2 (by omega) with ⟨y,ks,f,u,hy,hb,e3⟩ | ⟨x,v,hx,hv,hd,_,e3⟩
    ·rw [e2] at hb
     cases hb
    ·have hx1:=spk_fits hn hm a0 a1 b0 b1 hx.fits
     have hbx:=(box_of hx.fits (v:=0) (by omega)).1 1 (by rw [e2]; rfl)
     rw [hx1,show ((1:Int):Rat) = 1 from rfl] at hbx
     grind
   ·have hx1:=spk_fits hn hm a0 a1 b0 b1 hx.fits
    have hbx:=(box_of hx.fits (v:=0) (by omega)).2 0 (by rw [e1]; rfl)
    rw [hx1,show ((0:Int):Rat) = 0 from rfl] at hbx
    grind
 ·exact hj
theorem spk_nosat {t:Nat → LS} {j:Nat} {z:Nat → Int} (h:LFin S (t j) (.sat z)):False:=by
 have h1:=h.sat.1
 have h2:=(spk_row0 hn a0 b0).1 (h1 0 (by omega))
 have h3:=(spk_row1 hn a1 b1).1 (h1 1 (by omega))
 omega
theorem spk_two {t:Nat → LS} {j:Nat} {nd:Nat → Nat} (hr:LRun S t j) (h:LFin S (t j) (.unsat nd)):(reasL S.m nd).length = 2:=by
 have hg:=hr.good j (Nat.le_refl _)
 have h0:0 < nd 0:=Classical.byContradiction fun h0=>hg.unsat h (p:=fun _=>1) (fun i hi hni=>by
  rcases (show i = 0 ∨ i = 1 by omega) with rfl | rfl
  ·omega
  ·exact (spk_row1 hn a1 b1).2 (by decide))
 have h1:0 < nd 1:=Classical.byContradiction fun h0=>hg.unsat h (p:=fun _=>0) (fun i hi hni=>by
  rcases (show i = 0 ∨ i = 1 by omega) with rfl | rfl
  ·exact (spk_row0 hn a0 b0).2 (by decide)
  ·omega)
 rw [hm]
 show (reasL (0 + 1 + 1) nd).length = 2
 rw [reasL_next,reasL_next,if_pos h0,if_pos h1]
 rfl
end
end Go.Proofs.Ytphjffbldhhdiaa
