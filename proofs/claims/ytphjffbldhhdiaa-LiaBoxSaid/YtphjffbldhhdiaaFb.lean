/- Texts in one file: Rf1, Rf2, Rf3, Rf4, Rf5, FLead, FOdd, FNumLaw. -/
import Derived.Test.YtphjffbldhhdiaaFa
namespace Go.Proofs.Ytphjffbldhhdiaa
open Go.RowKit

theorem NumV.sign {w:World} {n:Bool} {a:Option Addr} {l k:Nat} {z:Int} (h:NumV w (.agg #[.bool n,.slice a l k]) z):n = decide (z < 0) ∧ l = dlen z:=by
 obtain ⟨a',c',e,-,-⟩:=h
 simp at e
 exact ⟨e.1,e.2.2.1⟩
theorem Dm.neg {x:Int} (h:Dm x):Dm (-x):=by unfold Dm dlen at *; rw [Int.natAbs_neg]; exact h
theorem dlen_mono {x y:Int} (h:x.natAbs ≤ y.natAbs):dlen x ≤ dlen y:=dg_len_mono T2 h
theorem Dm.le {x y:Int} (hy:Dm y) (h:x.natAbs ≤ y.natAbs):Dm x:=Nat.le_trans (dlen_mono h) hy



def Qr (q:Rat):Prop:=Qn 100000000 q
theorem Qn.r {m:Nat} {q:Rat} (h:Qn m q) (hk:m ≤ 100000000):Qr q:=Qn.mono h hk
theorem Qr.dm {p q:Rat} (hp:Qr p) (hq:Qr q):Dm p.num ∧ Dm (p.den:Int) ∧ Dm (p.num * q.num) ∧ Dm ((p.den:Int) * (q.den:Int)) ∧ Dm (p.num * (q.den:Int)) ∧ Dm ((p.den:Int) * q.num) ∧ Dm (q.num * (p.den:Int)) ∧ Dm (p.num * (q.den:Int) + q.num * (p.den:Int)):=by
 obtain ⟨a1,a2⟩:=hp
 obtain ⟨b1,b2⟩:=hq
 have m1:=len_mul p.num q.num
 have m2:=len_mul (p.den:Int) (q.den:Int)
 have m3:=len_mul p.num (q.den:Int)
 have m4:=len_mul (p.den:Int) q.num
 have m5:=len_mul q.num (p.den:Int)
 have m6:=len_add (p.num * (q.den:Int)) (q.num * (p.den:Int))
 refine ⟨?_,?_,?_,?_,?_,?_,?_,?_⟩ <;> exact dm_len (by omega)
theorem RFracV.parts {w:World} {v:Value} {q:Rat} (h:RFracV w v q):∃ (n1:Bool) (a1:Option Addr) (l1 k1:Nat) (n2:Bool) (a2:Option Addr) (l2 k2:Nat),v = .agg #[.bool n1,.slice a1 l1 k1,.bool n2,.slice a2 l2 k2] ∧ NumV w (.agg #[.bool n1,.slice a1 l1 k1]) q.num ∧ NumV w (.agg #[.bool n2,.slice a2 l2 k2]) (q.den:Int):=h
theorem RFracV.drewd {w:World} {v:Value} {q:Rat} (h:RFracV w v q):RFracV w.drew v q:=h
theorem RFracV.allocd {w:World} {v:Value} {q:Rat} (h:RFracV w v q) (o:Obj):RFracV (w.alloc o) v q:=h.below ((Below.refl _ _).alloc (Nat.le_refl _) _) (Nat.le_refl _)


theorem und_inj {p q:Rat}:(p.num = q.num ∧ und p = und q) ↔ p = q:=by
 constructor
 ·rintro ⟨h1,h2⟩
  refine Rat.ext h1 ?_
  have h3:=ben_und p
  have h4:=ben_und q
  rw [h2] at h3
  omega
 ·rintro rfl; exact ⟨rfl,rfl⟩

theorem FracV.fr {w:World} {v:Value} {q:Rat} (h:FracV w v q):FrV w v q.num (und q):=h

structure RFr where
 up:Raw
 dn:Raw
def RFr.val (r:RFr):Value:=.agg #[.bool r.up.neg,.slice r.up.at_ r.up.ds.length r.up.cap,.bool r.dn.neg,.slice r.dn.at_ r.dn.ds.length r.dn.cap]
structure RFrOk (w:World) (r:RFr):Prop where
 up:RawOk w r.up
 dn:RawOk w r.dn
theorem RFrOk.below {w w':World} {B:Nat} {r:RFr} (h:RFrOk w r) (hb:Below B w w') (hB:w.heap.size ≤ B):RFrOk w' r:=⟨h.1.below hb hB,h.2.below hb hB⟩
def RFr.good (r:RFr):Prop:=r.up.ds.length ≤ 5 ∧ r.dn.ds.length ≤ 5 ∧ frightB r.up r.dn = true
theorem RFrOk.frac {w:World} {r:RFr} (h:RFrOk w r) (hg:r.good):∃ q:Rat,FracV w r.val q ∧ Qn 5 q:=by
 obtain ⟨⟨n,a,c,ds⟩,⟨m,b,d,es⟩⟩:=r
 obtain ⟨h5,h6,hf⟩:=hg
 have hr1:rightB n ds = true:=by
  unfold frightB at hf
  rw [Bool.and_eq_true] at hf; exact hf.1
 have hr2:rightB m es = true:=by
  unfold frightB at hf
  rw [Bool.and_eq_true,Bool.and_eq_true] at hf; exact hf.2.1
 obtain ⟨z,hz1,hz2⟩:=rightB_val hr1
 obtain ⟨y,hy1,hy2⟩:=rightB_val hr2
 obtain ⟨q,rfl,rfl⟩:=(frightB_iff z y (r:=⟨n,a,c,ds⟩) (s:=⟨m,b,d,es⟩) hz1 hz2 hy1 hy2).1 hf
 subst hz1 hz2 hy1 hy2
 refine ⟨q,⟨_,_,_,_,_,_,_,_,rfl,⟨a,c,rfl,h.up.fit,h.up.dig⟩,⟨b,d,rfl,h.dn.fit,h.dn.dig⟩⟩,⟨h5,?_⟩⟩
 have h7:len (und q) ≤ 5:=h6
 unfold und at h7
 by_cases h1:q.den = 1
 ·rw [h1]; exact Nat.le_trans (dg_len BB2 (show ((1:Nat):Int).natAbs < BB ^ 1 by decide)) (by decide)
 ·rwa [if_neg h1] at h7

theorem Qn.dl {m:Nat} {q:Rat} (h:Qn m q) (hm:m ≤ 1000000000):dlen q.num ≤ 100000000000 ∧ dlen (q.den:Int) ≤ 100000000000:=⟨dm_len (Nat.le_trans h.1 hm),dm_len (Nat.le_trans h.2 hm)⟩
theorem FCmp_at {c:World} {p q:Rat} {u v:Value} {C:Int} (hx:FracV c u p) (hy:FracV c v q) (hp:Qz p) (hq:Qz q) (hC:ordQ p q = C):Calls Try.prog 61 #[u,v] c fun e w'=>e = .returned (.int .i64 C) ∧ Below c.heap.size c w':=by
 subst hC; exact FCmp_any c hx hy hp hq
theorem FOf2_any {x:Int} {u:Value} (w:World) (hx:IntV w u x) (hn:Sm x):Calls Try.prog 49 #[u] w (FracPost w (x:Rat)):=by
 refine (FOf_any w hx hn).mono ?_
 rintro e w' ⟨r,he,hr,hb⟩
 refine ⟨r,he,?_,hb⟩
 unfold FracV
 rw [Rat.num_intCast,und_int]
 exact hr
theorem FracV.len {w:World} {n m:Bool} {a b:Option Addr} {l k i j:Nat} {q:Rat} (h:FracV w (.agg #[.bool n,.slice a l k,.bool m,.slice b i j]) q):l = len q.num ∧ i = len (und q):=by
 obtain ⟨_,_,_,_,_,_,_,_,e,h1,h2⟩:=h
 simp only [Value.agg.injEq,Array.mk.injEq,List.cons.injEq,Value.bool.injEq,Value.slice.injEq,and_true] at e
 obtain ⟨rfl,⟨rfl,rfl,rfl⟩,rfl,⟨rfl,rfl,rfl⟩⟩:=e
 exact ⟨h1.sign.2,h2.sign.2⟩
theorem FracV.zero (w:World):FracV w (.agg #[.bool false,.slice none 0 0,.bool false,.slice none 0 0]) 0:=FrV.mk (IntV.zero w) (IntV.zero w)
theorem Qn.zero:Qn 1 (0:Rat):=⟨by decide,by
 show len ((1:Nat):Int) ≤ 1
 exact dg_len BB2 (by decide)⟩

theorem ordQ_cases (p q:Rat):(p < q ∧ ordQ p q = -1) ∨ (p = q ∧ ordQ p q = 0) ∨ (q < p ∧ ordQ p q = 1):=by
 rw [ordQ_eq]
 by_cases h:p < q
 ·left; exact ⟨h,if_pos h⟩
 ·rw [if_neg h]
  by_cases h2:q < p
  ·right; right; exact ⟨h2,if_pos h2⟩
  ·right; left; exact ⟨by grind,if_neg h2⟩
end Go.Proofs.Ytphjffbldhhdiaa

namespace Go.Proofs.Ytphjffbldhhdiaa
open Go.ChangeShapes Go.WideShapes Go.ChangeAt Go.RowKit

set_option maxRecDepth 100000 in
theorem open_two {H:Type} {enc:TypeId × Value → H} {W:World} {n:Nat} {c0 c1:Value} {y:DataW H × List MemPlace} (h:DataW.trod enc Try.prog W 0 (fun _=>true) true n 38 [c0,c1] = some y) :
  ∃ R:Raw,c0 = .bool R.neg ∧ c1 = .slice R.at_ R.ds.length R.cap ∧ RawOk W R:=by
 obtain ⟨y0,y1,m,_,_,h0,h1⟩:=Go.ChangeShapes.trod_struct2 Try.underlying38 h
 have h0':DataW.trod enc Try.prog W 0 (fun _=>true) true m 4 [c0] = some y0:=h0
 have h1':DataW.trod enc Try.prog W 0 (fun _=>true) true m 36 [c1] = some y1:=h1
 obtain ⟨b,e0,_⟩:=DataW.trod_bool Try.underlying4 h0'
 obtain ⟨a,c,ds,rfl,hd,hf,hl⟩:=open_digits h1'
 simp at e0
 subst e0
 exact ⟨⟨b,a,c,ds⟩,rfl,rfl,⟨hd,hf,hl⟩⟩

end Go.Proofs.Ytphjffbldhhdiaa
