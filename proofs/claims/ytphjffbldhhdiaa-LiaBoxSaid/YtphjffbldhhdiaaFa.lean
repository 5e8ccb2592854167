/- Texts in one file: Frac1, Frac2, Frac3, Frac4, Frac5, Frac6, Frac7. -/
import Derived.Test.YtphjffbldhhdiaaNd
import Derived.Deep.RegionHeld3
namespace Go.Proofs.Ytphjffbldhhdiaa
open Go.RowKit

def und (q:Rat):Int:=if q.den = 1 then 0 else (q.den:Int)
def ben (b:Int):Int:=if b = 0 then 1 else b
theorem ben_und (q:Rat):ben (und q) = (q.den:Int):=by
 have:=q.den_nz
 unfold ben und
 by_cases h:q.den = 1
 ·simp [h]
 ·rw [if_neg h,if_neg (by omega)]
theorem make_num {x y:Int} (hy:y ≠ 0):(Rat.divInt x y).num = (if y < 0 then -x else x) / (Nat.gcd x.natAbs y.natAbs:Int):=by
 rw [Rat.num_divInt,Int.gcd,Nat.gcd_comm]
 rcases Int.lt_trichotomy y 0 with h | h | h
 ·rw [if_pos h,Int.sign_eq_neg_one_of_neg h]; simp
 ·exact absurd h hy
 ·rw [if_neg (by omega),Int.sign_eq_one_of_pos h]; simp
theorem make_den {x y:Int} (hy:y ≠ 0):((Rat.divInt x y).den:Int) = (y.natAbs:Int) / (Nat.gcd x.natAbs y.natAbs:Int):=by
 rw [Rat.den_divInt,if_neg hy,Int.gcd,Nat.gcd_comm]; simp
def gsg (x y:Int):Int:=if y < 0 then -(Nat.gcd x.natAbs y.natAbs:Int) else (Nat.gcd x.natAbs y.natAbs:Int)
theorem gsg_ne {x y:Int} (hy:y ≠ 0):gsg x y ≠ 0:=by
 have:0 < Nat.gcd x.natAbs y.natAbs:=Nat.gcd_pos_of_pos_right _ (by omega)
 unfold gsg; split <;> omega
theorem make_over {x y:Int} (hy:y ≠ 0):x / gsg x y = (Rat.divInt x y).num:=by
 rw [make_num hy]
 have h:(Nat.gcd x.natAbs y.natAbs:Int) ∣ x:=Int.ofNat_dvd_left.2 (Nat.gcd_dvd_left _ _)
 unfold gsg
 split
 ·rw [Int.ediv_neg,Int.neg_ediv_of_dvd h]
 ·rfl
theorem make_below {x y:Int} (hy:y ≠ 0):y / gsg x y = ((Rat.divInt x y).den:Int):=by
 rw [make_den hy]
 have h:(Nat.gcd x.natAbs y.natAbs:Int) ∣ (y.natAbs:Int):=Int.natCast_dvd_natCast.2 (Nat.gcd_dvd_right _ _)
 unfold gsg
 split
 ·rename_i h0
  rw [show y = -(y.natAbs:Int) by omega,Int.natAbs_neg,Int.natAbs_natCast,Int.ediv_neg,Int.neg_ediv_of_dvd h,Int.neg_neg]
 ·rename_i h0
  rw [show (y.natAbs:Int) = y by omega]
theorem divInt_num_le (x y:Int):(Rat.divInt x y).num.natAbs ≤ x.natAbs:=by
 by_cases hy:y = 0
 ·subst hy; rw [Rat.divInt_zero]; simp
 ·rw [← make_over hy]; exact Int.natAbs_ediv_le_natAbs _ _
theorem divInt_den_le {x y:Int} (hy:y ≠ 0):(Rat.divInt x y).den ≤ y.natAbs:=by
 have h:=Int.natAbs_ediv_le_natAbs y (gsg x y)
 rw [make_below hy] at h
 simpa using h
theorem add_div (p q:Rat):Rat.divInt (p.num * (q.den:Int) + q.num * (p.den:Int)) ((p.den:Int) * (q.den:Int)) = p + q:=by
 have h1:=p.den_nz
 have h2:=q.den_nz
 rw [← Rat.divInt_add_divInt _ _ (by omega) (by omega),Rat.num_divInt_den,Rat.num_divInt_den]
theorem mul_div (p q:Rat):Rat.divInt (p.num * q.num) ((p.den:Int) * (q.den:Int)) = p * q:=by
 rw [← Rat.divInt_mul_divInt,Rat.num_divInt_den,Rat.num_divInt_den]
theorem div_div (p q:Rat):Rat.divInt (p.num * (q.den:Int)) ((p.den:Int) * q.num) = p / q:=by
 rw [← Rat.divInt_mul_divInt,Rat.num_divInt_den,Rat.div_def,Rat.inv_def]
theorem und_neg (q:Rat):und (-q) = und q:=by unfold und; rw [Rat.neg_den]
theorem und_int (z:Int):und (z:Rat) = 0:=by unfold und; rw [Rat.den_intCast]; rfl

def FrV (w:World) (v:Value) (a b:Int):Prop:=∃ (n1:Bool) (a1:Option Addr) (l1 k1:Nat) (n2:Bool) (a2:Option Addr) (l2 k2:Nat),v = .agg #[.bool n1,.slice a1 l1 k1,.bool n2,.slice a2 l2 k2] ∧ IntV w (.agg #[.bool n1,.slice a1 l1 k1]) a ∧ IntV w (.agg #[.bool n2,.slice a2 l2 k2]) b
def FracV (w:World) (v:Value) (q:Rat):Prop:=FrV w v q.num (und q)
def RFrV (w:World) (v:Value) (a b:Int):Prop:=∃ (n1:Bool) (a1:Option Addr) (l1 k1:Nat) (n2:Bool) (a2:Option Addr) (l2 k2:Nat),v = .agg #[.bool n1,.slice a1 l1 k1,.bool n2,.slice a2 l2 k2] ∧ NumV w (.agg #[.bool n1,.slice a1 l1 k1]) a ∧ NumV w (.agg #[.bool n2,.slice a2 l2 k2]) b
def RFracV (w:World) (v:Value) (q:Rat):Prop:=RFrV w v q.num (q.den:Int)
def FrPost (w:World) (a b:Int) (e:Ending) (w':World):Prop:=∃ r,e = .returned r ∧ FrV w' r a b ∧ Below w.heap.size w w'
def FracPost (w:World) (q:Rat) (e:Ending) (w':World):Prop:=∃ r,e = .returned r ∧ FracV w' r q ∧ Below w.heap.size w w'
section
variable {w w':World} {v:Value} {a b:Int} {q:Rat} {B:Nat}
theorem FrV.below (h:FrV w v a b) (hb:Below B w w') (hB:w.heap.size ≤ B):FrV w' v a b:=by
 obtain ⟨_,_,_,_,_,_,_,_,e,h1,h2⟩:=h
 exact ⟨_,_,_,_,_,_,_,_,e,h1.below hb hB,h2.below hb hB⟩
theorem FracV.below (h:FracV w v q) (hb:Below B w w') (hB:w.heap.size ≤ B):FracV w' v q:=FrV.below h hb hB
theorem RFrV.below (h:RFrV w v a b) (hb:Below B w w') (hB:w.heap.size ≤ B):RFrV w' v a b:=by
 obtain ⟨_,_,_,_,_,_,_,_,e,h1,h2⟩:=h
 exact ⟨_,_,_,_,_,_,_,_,e,h1.below hb hB,h2.below hb hB⟩
theorem RFracV.below (h:RFracV w v q) (hb:Below B w w') (hB:w.heap.size ≤ B):RFracV w' v q:=RFrV.below h hb hB
theorem FrV.parts (h:FrV w v a b):∃ (n1:Bool) (a1:Option Addr) (l1 k1:Nat) (n2:Bool) (a2:Option Addr) (l2 k2:Nat),v = .agg #[.bool n1,.slice a1 l1 k1,.bool n2,.slice a2 l2 k2] ∧ IntV w (.agg #[.bool n1,.slice a1 l1 k1]) a ∧ IntV w (.agg #[.bool n2,.slice a2 l2 k2]) b:=h
theorem RFrV.parts (h:RFrV w v a b):∃ (n1:Bool) (a1:Option Addr) (l1 k1:Nat) (n2:Bool) (a2:Option Addr) (l2 k2:Nat),v = .agg #[.bool n1,.slice a1 l1 k1,.bool n2,.slice a2 l2 k2] ∧ NumV w (.agg #[.bool n1,.slice a1 l1 k1]) a ∧ NumV w (.agg #[.bool n2,.slice a2 l2 k2]) b:=h
theorem FrV.mk {n1:Bool} {a1:Option Addr} {l1 k1:Nat} {n2:Bool} {a2:Option Addr} {l2 k2:Nat} (h1:IntV w (.agg #[.bool n1,.slice a1 l1 k1]) a) (h2:IntV w (.agg #[.bool n2,.slice a2 l2 k2]) b):FrV w (.agg #[.bool n1,.slice a1 l1 k1,.bool n2,.slice a2 l2 k2]) a b:=⟨_,_,_,_,_,_,_,_,rfl,h1,h2⟩
theorem RFrV.mk {n1:Bool} {a1:Option Addr} {l1 k1:Nat} {n2:Bool} {a2:Option Addr} {l2 k2:Nat} (h1:NumV w (.agg #[.bool n1,.slice a1 l1 k1]) a) (h2:NumV w (.agg #[.bool n2,.slice a2 l2 k2]) b):RFrV w (.agg #[.bool n1,.slice a1 l1 k1,.bool n2,.slice a2 l2 k2]) a b:=⟨_,_,_,_,_,_,_,_,rfl,h1,h2⟩
end

def isN (cs:Array Value):Prop:=∀ (i:Nat) (k:IntKind) (z:Int),cs[i]? ≠ some (.int k z)
theorem isN2 (n:Bool) (a:Option Addr) (l k:Nat):isN #[.bool n,.slice a l k]:=by
 intro i q z h
 rcases i with _ | _ | i <;> simp at h
theorem isN4 (n:Bool) (a:Option Addr) (l k:Nat) (n':Bool) (a':Option Addr) (l' k':Nat):isN #[.bool n,.slice a l k,.bool n',.slice a' l' k']:=by
 intro i q z h
 rcases i with _ | _ | _ | _ | i <;> simp at h
section
variable {w w' c:World} {g:Nat} {t:TypeId} {cs:Array Value} {p q r s:Value}
theorem Blk.c4 (h:Blk w g t #[p,q,r,s]):w.cell? ⟨g,0,none⟩ = some p ∧ w.cell? ⟨g,1,none⟩ = some q ∧ w.cell? ⟨g,2,none⟩ = some r ∧ w.cell? ⟨g,3,none⟩ = some s ∧ ∀ i,w.frozen? ⟨g,i,none⟩ = false:=
 ⟨h.cell 0,h.cell 1,h.cell 2,h.cell 3,h.frozen⟩
theorem Blk.four (h:Blk w g t #[p,q,r,s]) (x y z u:Value):Blk ((((w.setCell ⟨g,0,none⟩ x).setCell ⟨g,1,none⟩ y).setCell ⟨g,2,none⟩ z).setCell ⟨g,3,none⟩ u) g t #[x,y,z,u]:=
 (((h.set_ 0 x).set_ 1 y).set_ 2 z).set_ 3 u
theorem Blk.front (h:Blk w g t #[p,q,r,s]) (x y:Value):Blk ((w.setCell ⟨g,0,none⟩ x).setCell ⟨g,1,none⟩ y) g t #[x,y,r,s]:=(h.set_ 0 x).set_ 1 y
theorem Blk.back (h:Blk w g t #[p,q,r,s]) (x y:Value):Blk ((w.setCell ⟨g,2,none⟩ x).setCell ⟨g,3,none⟩ y) g t #[p,q,x,y]:=(h.set_ 2 x).set_ 3 y
theorem Dg.set1 {k:IntKind} {a:Option Addr} {ds:List Nat} (h:Dg k w a ds) (hB:Blk w g t cs) {i:Nat} (hi:∀ z,cs[i]? ≠ some (.int k z)) (u:Value):Dg k (w.setCell ⟨g,i,none⟩ u) a ds:=by
 intro hn
 obtain ⟨b,off,e,hc⟩:=h hn
 refine ⟨b,off,e,fun j hj=>?_⟩
 have hne:(⟨g,i,none⟩:Addr) ≠ ⟨b,off + j,none⟩:=fun e=>by
  have:=hc j hj
  rw [← e,hB.cell i] at this
  exact hi _ this
 rw [World.cell?_setCell_other _ _ _ _ hne]
 exact hc j hj
theorem IntV.set1 {v:Value} {z:Int} (h:IntV w v z) (hB:Blk w g t cs) {i:Nat} (hi:∀ (k:IntKind) (z:Int),cs[i]? ≠ some (.int k z)) (u:Value):IntV (w.setCell ⟨g,i,none⟩ u) v z:=by
 obtain ⟨a,cap,e,hf,hd⟩:=h
 exact ⟨a,cap,e,hf,hd.set1 hB (hi _) u⟩
theorem NumV.set1 {v:Value} {z:Int} (h:NumV w v z) (hB:Blk w g t cs) {i:Nat} (hi:∀ (k:IntKind) (z:Int),cs[i]? ≠ some (.int k z)) (u:Value):NumV (w.setCell ⟨g,i,none⟩ u) v z:=by
 obtain ⟨a,cap,e,hf,hd⟩:=h
 exact ⟨a,cap,e,hf,hd.set1 hB (hi _) u⟩
variable {n n':Bool} {a a':Option Addr} {l k l' k':Nat} {v:Value} {z:Int}
theorem IntV.st2 (h:IntV w v z) (hB:Blk w g t #[.bool n,.slice a l k]) (x y:Value):IntV ((w.setCell ⟨g,0,none⟩ x).setCell ⟨g,1,none⟩ y) v z:=
 (h.set1 hB (isN2 _ _ _ _ 0) x).set1 (hB.set_ 0 x) (by intro q u; simp) y
theorem NumV.st2 (h:NumV w v z) (hB:Blk w g t #[.bool n,.slice a l k]) (x y:Value):NumV ((w.setCell ⟨g,0,none⟩ x).setCell ⟨g,1,none⟩ y) v z:=
 (h.set1 hB (isN2 _ _ _ _ 0) x).set1 (hB.set_ 0 x) (by intro q u; simp) y
theorem IntV.stf (h:IntV w v z) (hB:Blk w g t #[.bool n,.slice a l k,.bool n',.slice a' l' k']) (x y:Value):IntV ((w.setCell ⟨g,0,none⟩ x).setCell ⟨g,1,none⟩ y) v z:=
 (h.set1 hB (isN4 _ _ _ _ _ _ _ _ 0) x).set1 (hB.set_ 0 x) (by intro q u; simp) y
theorem NumV.stf (h:NumV w v z) (hB:Blk w g t #[.bool n,.slice a l k,.bool n',.slice a' l' k']) (x y:Value):NumV ((w.setCell ⟨g,0,none⟩ x).setCell ⟨g,1,none⟩ y) v z:=
 (h.set1 hB (isN4 _ _ _ _ _ _ _ _ 0) x).set1 (hB.set_ 0 x) (by intro q u; simp) y
theorem IntV.stb (h:IntV w v z) {p q:Value} (hB:Blk w g t #[p,q,.bool n',.slice a' l' k']) (x y:Value):IntV ((w.setCell ⟨g,2,none⟩ x).setCell ⟨g,3,none⟩ y) v z:=
 (h.set1 hB (by intro q u; simp) x).set1 (hB.set_ 2 x) (by intro q u; simp) y
theorem NumV.stb (h:NumV w v z) {p q:Value} (hB:Blk w g t #[p,q,.bool n',.slice a' l' k']) (x y:Value):NumV ((w.setCell ⟨g,2,none⟩ x).setCell ⟨g,3,none⟩ y) v z:=
 (h.set1 hB (by intro q u; simp) x).set1 (hB.set_ 2 x) (by intro q u; simp) y
theorem IntV.st4 (h:IntV w v z) (hB:Blk w g t #[.bool n,.slice a l k,.bool n',.slice a' l' k']) (x y x' y':Value):IntV ((((w.setCell ⟨g,0,none⟩ x).setCell ⟨g,1,none⟩ y).setCell ⟨g,2,none⟩ x').setCell ⟨g,3,none⟩ y') v z:=
 (h.stf hB x y).stb (hB.front x y) x' y'
theorem NumV.st4 (h:NumV w v z) (hB:Blk w g t #[.bool n,.slice a l k,.bool n',.slice a' l' k']) (x y x' y':Value):NumV ((((w.setCell ⟨g,0,none⟩ x).setCell ⟨g,1,none⟩ y).setCell ⟨g,2,none⟩ x').setCell ⟨g,3,none⟩ y') v z:=
 (h.stf hB x y).stb (hB.front x y) x' y'
theorem FrV.st4 {A B:Int} (h:FrV w v A B) (hB:Blk w g t #[.bool n,.slice a l k,.bool n',.slice a' l' k']) (x y x' y':Value):FrV ((((w.setCell ⟨g,0,none⟩ x).setCell ⟨g,1,none⟩ y).setCell ⟨g,2,none⟩ x').setCell ⟨g,3,none⟩ y') v A B:=by
 obtain ⟨_,_,_,_,_,_,_,_,e,h1,h2⟩:=h
 exact ⟨_,_,_,_,_,_,_,_,e,h1.st4 hB _ _ _ _,h2.st4 hB _ _ _ _⟩
theorem RFrV.st4 {A B:Int} (h:RFrV w v A B) (hB:Blk w g t #[.bool n,.slice a l k,.bool n',.slice a' l' k']) (x y x' y':Value):RFrV ((((w.setCell ⟨g,0,none⟩ x).setCell ⟨g,1,none⟩ y).setCell ⟨g,2,none⟩ x').setCell ⟨g,3,none⟩ y') v A B:=by
 obtain ⟨_,_,_,_,_,_,_,_,e,h1,h2⟩:=h
 exact ⟨_,_,_,_,_,_,_,_,e,h1.st4 hB _ _ _ _,h2.st4 hB _ _ _ _⟩
theorem set4b {w0:World} {m:Nat} (h:Below m w0 w) (hg:m ≤ g) (x y x' y':Value):Below m w0 ((((w.setCell ⟨g,0,none⟩ x).setCell ⟨g,1,none⟩ y).setCell ⟨g,2,none⟩ x').setCell ⟨g,3,none⟩ y'):=
 (((h.setCell hg _).setCell hg _).setCell hg _).setCell hg _
theorem set2b {w0:World} {m:Nat} (h:Below m w0 w) (hg:m ≤ g) (i j:Nat) (x y:Value):Below m w0 ((w.setCell ⟨g,i,none⟩ x).setCell ⟨g,j,none⟩ y):=
 (h.setCell hg _).setCell hg _
theorem cell4F {x:Addr} {p q r s v:Value} (hne:x.block ≠ g) (h:c.cell? x = some v):((((c.setCell ⟨g,0,none⟩ p).setCell ⟨g,1,none⟩ q).setCell ⟨g,2,none⟩ r).setCell ⟨g,3,none⟩ s).cell? x = some v:=by
 have k:∀ i,(⟨g,i,none⟩:Addr) ≠ x:=fun i e=>hne (by rw [← e])
 rw [World.cell?_setCell_other _ _ _ _ (k 3),World.cell?_setCell_other _ _ _ _ (k 2),World.cell?_setCell_other _ _ _ _ (k 1),World.cell?_setCell_other _ _ _ _ (k 0)]
 exact h
end

theorem sm_neg {x:Int} (h:Sm x):Sm (-x):=by unfold Sm at *; rw [len_neg]; exact h
theorem sm_gcd {x y:Int} (hx:Sm x) (hy:Sm y):Sm ((Nat.gcd x.natAbs y.natAbs:Nat):Int):=by
 unfold Sm at *
 rcases Nat.eq_zero_or_pos y.natAbs with h | h
 ·rw [h,Nat.gcd_zero_right]; exact Nat.le_trans (len_le (by simp)) hx
 ·exact Nat.le_trans (len_le (y:=y) (by have:=Nat.le_of_dvd h (Nat.gcd_dvd_right x.natAbs y.natAbs); omega)) hy
theorem sm_den {x y:Int} (hy:Sm y):Sm ((Rat.divInt x y).den:Int):=by
 by_cases h:y = 0
 ·subst h; rw [Rat.divInt_zero,Rat.zero_den]; exact sm_small (by decide)
 ·exact Nat.le_trans (len_le (by simpa using divInt_den_le h)) hy

def Qn (n:Nat) (q:Rat):Prop:=len q.num ≤ n ∧ len (q.den:Int) ≤ n
def Qz (q:Rat):Prop:=Qn 100000000000 q
section
variable {m n k:Nat} {p q:Rat}
theorem Qn.mono (h:Qn m q) (hk:m ≤ n):Qn n q:=⟨Nat.le_trans h.1 hk,Nat.le_trans h.2 hk⟩
theorem Qn.z (h:Qn m q) (hk:m ≤ 100000000000):Qz q:=Qn.mono h hk
theorem Qn.make {x y:Int} (hx:len x ≤ n) (hy:len y ≤ n) (h1:1 ≤ n):Qn n (Rat.divInt x y):=by
 refine ⟨Nat.le_trans (len_le (divInt_num_le x y)) hx,?_⟩
 by_cases h:y = 0
 ·subst h
  rw [Rat.divInt_zero,Rat.zero_den]
  exact Nat.le_trans (show len ((1:Nat):Int) ≤ 1 from dg_len BB2 (by decide)) h1
 ·exact Nat.le_trans (len_le (by simpa using divInt_den_le h)) hy
theorem Qn.den1 (h:Qn n q):1 ≤ n:=by
 refine Nat.le_trans ?_ h.2
 rcases Nat.eq_zero_or_pos (len (q.den:Int)) with e | e
 ·exfalso
  have:=(dg_eq_nil BB2).1 (List.length_eq_zero_iff.1 e)
  have h2:=q.den_nz
  simp at this
  exact h2 this
 ·exact e
theorem Qn.add (hp:Qn m p) (hq:Qn n q):Qn (m + n + 1) (p + q):=by
 rw [← add_div]
 have h1:=len_mul p.num (q.den:Int)
 have h2:=len_mul q.num (p.den:Int)
 have h3:=len_add (p.num * (q.den:Int)) (q.num * (p.den:Int))
 have h4:=len_mul (p.den:Int) (q.den:Int)
 obtain ⟨a1,a2⟩:=hp
 obtain ⟨b1,b2⟩:=hq
 exact Qn.make (by omega) (by omega) (by omega)
theorem Qn.mul (hp:Qn m p) (hq:Qn n q):Qn (m + n) (p * q):=by
 rw [← mul_div]
 have h0:=hp.den1
 have h1:=len_mul p.num q.num
 have h4:=len_mul (p.den:Int) (q.den:Int)
 obtain ⟨a1,a2⟩:=hp
 obtain ⟨b1,b2⟩:=hq
 exact Qn.make (by omega) (by omega) (by omega)
theorem Qn.div (hp:Qn m p) (hq:Qn n q):Qn (m + n) (p / q):=by
 rw [← div_div]
 have h0:=hp.den1
 have h1:=len_mul p.num (q.den:Int)
 have h4:=len_mul (p.den:Int) q.num
 obtain ⟨a1,a2⟩:=hp
 obtain ⟨b1,b2⟩:=hq
 exact Qn.make (by omega) (by omega) (by omega)
theorem Qn.neg (hp:Qn m p):Qn m (-p):=by
 refine ⟨?_,?_⟩
 ·rw [Rat.neg_num,len_neg]; exact hp.1
 ·rw [Rat.neg_den]; exact hp.2
theorem Qn.int {z:Int} (h:len z ≤ n) (h1:1 ≤ n):Qn n (z:Rat):=by
 refine ⟨by rw [Rat.num_intCast]; exact h,?_⟩
 rw [Rat.den_intCast]
 exact Nat.le_trans (show len ((1:Nat):Int) ≤ 1 from dg_len BB2 (by decide)) h1
theorem len_und (h:Qn m q):len (und q) ≤ m:=by
 unfold und
 split
 ·exact Nat.zero_le _
 ·exact h.2
end

structure Kq (w:World) (t:TypeId) (g:Nat) (c:World):Prop where
 bel:Below w.heap.size w c
 le:w.heap.size ≤ g
 blk:∃ (n:Bool) (a:Option Addr) (l k:Nat) (n':Bool) (a':Option Addr) (l' k':Nat),Blk c g t #[.bool n,.slice a l k,.bool n',.slice a' l' k']
section
variable {w c w1:World} {t:TypeId} {g:Nat}
theorem Kq.below (h:Kq w t g c) (hb:Below c.heap.size c w1):Kq w t g w1:=by
 obtain ⟨h1,h2,n,a,l,k,n',a',l',k',h3⟩:=h
 exact ⟨h1.trans (hb.mono h1.size),h2,n,a,l,k,n',a',l',k',h3.below hb h3.lt⟩
theorem Kq.drew (h:Kq w t g c):Kq w t g c.drew:=⟨h.1.drew,h.2,h.3⟩
theorem Kq.put {p q r s:Value} (hp:isB p) (hq:isS q) (hr:isB r) (hs:isS s) (h:Kq w t g c):Kq w t g ((((c.setCell ⟨g,0,none⟩ p).setCell ⟨g,1,none⟩ q).setCell ⟨g,2,none⟩ r).setCell ⟨g,3,none⟩ s):=by
 obtain ⟨h1,h2,n,a,l,k,n',a',l',k',h3⟩:=h
 obtain ⟨m,rfl⟩:=hp
 obtain ⟨x,y,z,rfl⟩:=hq
 obtain ⟨m',rfl⟩:=hr
 obtain ⟨x',y',z',rfl⟩:=hs
 exact ⟨set4b h1 h2 _ _ _ _,h2,m,x,y,z,m',x',y',z',h3.four _ _ _ _⟩
theorem Kq.at (h:Kq w t g c) (hb:Below c.heap.size c w1):∃ (n:Bool) (a:Option Addr) (l k:Nat) (n':Bool) (a':Option Addr) (l' k':Nat),w1.cell? ⟨g,0,none⟩ = some (.bool n) ∧ w1.cell? ⟨g,1,none⟩ = some (.slice a l k) ∧ w1.cell? ⟨g,2,none⟩ = some (.bool n') ∧ w1.cell? ⟨g,3,none⟩ = some (.slice a' l' k') ∧ w1.frozen? ⟨g,0,none⟩ = false ∧ w1.frozen? ⟨g,1,none⟩ = false ∧ w1.frozen? ⟨g,2,none⟩ = false ∧ w1.frozen? ⟨g,3,none⟩ = false ∧ Blk w1 g t #[.bool n,.slice a l k,.bool n',.slice a' l' k']:=by
 obtain ⟨h1,h2,n,a,l,m,n',a',l',m',k⟩:=h
 have k':=k.below hb k.lt
 obtain ⟨c0,c1,c2,c3,hf⟩:=k'.c4
 exact ⟨n,a,l,m,n',a',l',m',c0,c1,c2,c3,hf 0,hf 1,hf 2,hf 3,k'⟩
end
theorem keepZ2 {w c w1:World} {g0 o0 g1 o1:Nat} {v0 v1:Value} (h:c.cell? ⟨g0,o0,none⟩ = some v0 ∧ c.cell? ⟨g1,o1,none⟩ = some v1 ∧ Below w.heap.size w c) (hb:Below c.heap.size c w1):w1.cell? ⟨g0,o0,none⟩ = some v0 ∧ w1.cell? ⟨g1,o1,none⟩ = some v1 ∧ Below w.heap.size w w1:=by
 obtain ⟨h0,h1,hk⟩:=h
 exact ⟨cellK hb h0,cellK hb h1,hk.trans (hb.mono hk.size)⟩
theorem keepL4 {w c w1:World} {t:TypeId} {g:Nat} {g0 o0 g1 o1 g2 o2 g3 o3:Nat} {v0 v1 v2 v3:Value} (h:c.cell? ⟨g0,o0,none⟩ = some v0 ∧ c.cell? ⟨g1,o1,none⟩ = some v1 ∧ c.cell? ⟨g2,o2,none⟩ = some v2 ∧ c.cell? ⟨g3,o3,none⟩ = some v3 ∧ Kq w t g c) (hb:Below c.heap.size c w1):w1.cell? ⟨g0,o0,none⟩ = some v0 ∧ w1.cell? ⟨g1,o1,none⟩ = some v1 ∧ w1.cell? ⟨g2,o2,none⟩ = some v2 ∧ w1.cell? ⟨g3,o3,none⟩ = some v3 ∧ Kq w t g w1:=by
 obtain ⟨h0,h1,h2,h3,hk⟩:=h
 exact ⟨cellK hb h0,cellK hb h1,cellK hb h2,cellK hb h3,hk.below hb⟩
theorem keepQ4 {w c:World} {t:TypeId} {g:Nat} {g0 o0 g1 o1 g2 o2 g3 o3:Nat} {v0 v1 v2 v3:Value} (d0:g0 ≠ g) (d1:g1 ≠ g) (d2:g2 ≠ g) (d3:g3 ≠ g) (p q r s:Value) (hp:isB p) (hq:isS q) (hr:isB r) (hs:isS s) (h:c.cell? ⟨g0,o0,none⟩ = some v0 ∧ c.cell? ⟨g1,o1,none⟩ = some v1 ∧ c.cell? ⟨g2,o2,none⟩ = some v2 ∧ c.cell? ⟨g3,o3,none⟩ = some v3 ∧ Kq w t g c):((((c.setCell ⟨g,0,none⟩ p).setCell ⟨g,1,none⟩ q).setCell ⟨g,2,none⟩ r).setCell ⟨g,3,none⟩ s).cell? ⟨g0,o0,none⟩ = some v0 ∧ ((((c.setCell ⟨g,0,none⟩ p).setCell ⟨g,1,none⟩ q).setCell ⟨g,2,none⟩ r).setCell ⟨g,3,none⟩ s).cell? ⟨g1,o1,none⟩ = some v1 ∧ ((((c.setCell ⟨g,0,none⟩ p).setCell ⟨g,1,none⟩ q).setCell ⟨g,2,none⟩ r).setCell ⟨g,3,none⟩ s).cell? ⟨g2,o2,none⟩ = some v2 ∧ ((((c.setCell ⟨g,0,none⟩ p).setCell ⟨g,1,none⟩ q).setCell ⟨g,2,none⟩ r).setCell ⟨g,3,none⟩ s).cell? ⟨g3,o3,none⟩ = some v3 ∧ Kq w t g ((((c.setCell ⟨g,0,none⟩ p).setCell ⟨g,1,none⟩ q).setCell ⟨g,2,none⟩ r).setCell ⟨g,3,none⟩ s):=by
 obtain ⟨h0,h1,h2,h3,hk⟩:=h
 exact ⟨cell4F (x:=⟨g0,o0,none⟩) d0 h0,cell4F (x:=⟨g1,o1,none⟩) d1 h1,cell4F (x:=⟨g2,o2,none⟩) d2 h2,cell4F (x:=⟨g3,o3,none⟩) d3 h3,hk.put hp hq hr hs⟩
theorem keepZ4 {w c w1:World} {g0 o0 g1 o1 g2 o2 g3 o3:Nat} {v0 v1 v2 v3:Value} (h:c.cell? ⟨g0,o0,none⟩ = some v0 ∧ c.cell? ⟨g1,o1,none⟩ = some v1 ∧ c.cell? ⟨g2,o2,none⟩ = some v2 ∧ c.cell? ⟨g3,o3,none⟩ = some v3 ∧ Below w.heap.size w c) (hb:Below c.heap.size c w1):w1.cell? ⟨g0,o0,none⟩ = some v0 ∧ w1.cell? ⟨g1,o1,none⟩ = some v1 ∧ w1.cell? ⟨g2,o2,none⟩ = some v2 ∧ w1.cell? ⟨g3,o3,none⟩ = some v3 ∧ Below w.heap.size w w1:=by
 obtain ⟨h0,h1,h2,h3,hk⟩:=h
 exact ⟨cellK hb h0,cellK hb h1,cellK hb h2,cellK hb h3,hk.trans (hb.mono hk.size)⟩
theorem keepL8 {w c w1:World} {t:TypeId} {g:Nat} {g0 o0 g1 o1 g2 o2 g3 o3 g4 o4 g5 o5 g6 o6 g7 o7:Nat} {v0 v1 v2 v3 v4 v5 v6 v7:Value} (h:c.cell? ⟨g0,o0,none⟩ = some v0 ∧ c.cell? ⟨g1,o1,none⟩ = some v1 ∧ c.cell? ⟨g2,o2,none⟩ = some v2 ∧ c.cell? ⟨g3,o3,none⟩ = some v3 ∧ c.cell? ⟨g4,o4,none⟩ = some v4 ∧ c.cell? ⟨g5,o5,none⟩ = some v5 ∧ c.cell? ⟨g6,o6,none⟩ = some v6 ∧ c.cell? ⟨g7,o7,none⟩ = some v7 ∧ Kq w t g c) (hb:Below c.heap.size c w1):w1.cell? ⟨g0,o0,none⟩ = some v0 ∧ w1.cell? ⟨g1,o1,none⟩ = some v1 ∧ w1.cell? ⟨g2,o2,none⟩ = some v2 ∧ w1.cell? ⟨g3,o3,none⟩ = some v3 ∧ w1.cell? ⟨g4,o4,none⟩ = some v4 ∧ w1.cell? ⟨g5,o5,none⟩ = some v5 ∧ w1.cell? ⟨g6,o6,none⟩ = some v6 ∧ w1.cell? ⟨g7,o7,none⟩ = some v7 ∧ Kq w t g w1:=by
 obtain ⟨h0,h1,h2,h3,h4,h5,h6,h7,hk⟩:=h
 exact ⟨cellK hb h0,cellK hb h1,cellK hb h2,cellK hb h3,cellK hb h4,cellK hb h5,cellK hb h6,cellK hb h7,hk.below hb⟩
theorem keepQ8 {w c:World} {t:TypeId} {g:Nat} {g0 o0 g1 o1 g2 o2 g3 o3 g4 o4 g5 o5 g6 o6 g7 o7:Nat} {v0 v1 v2 v3 v4 v5 v6 v7:Value} (d0:g0 ≠ g) (d1:g1 ≠ g) (d2:g2 ≠ g) (d3:g3 ≠ g) (d4:g4 ≠ g) (d5:g5 ≠ g) (d6:g6 ≠ g) (d7:g7 ≠ g) (p q r s:Value) (hp:isB p) (hq:isS q) (hr:isB r) (hs:isS s) (h:c.cell? ⟨g0,o0,none⟩ = some v0 ∧ c.cell? ⟨g1,o1,none⟩ = some v1 ∧ c.cell? ⟨g2,o2,none⟩ = some v2 ∧ c.cell? ⟨g3,o3,none⟩ = some v3 ∧ c.cell? ⟨g4,o4,none⟩ = some v4 ∧ c.cell? ⟨g5,o5,none⟩ = some v5 ∧ c.cell? ⟨g6,o6,none⟩ = some v6 ∧ c.cell? ⟨g7,o7,none⟩ = some v7 ∧ Kq w t g c):((((c.setCell ⟨g,0,none⟩ p).setCell ⟨g,1,none⟩ q).setCell ⟨g,2,none⟩ r).setCell ⟨g,3,none⟩ s).cell? ⟨g0,o0,none⟩ = some v0 ∧ ((((c.setCell ⟨g,0,none⟩ p).setCell ⟨g,1,none⟩ q).setCell ⟨g,2,none⟩ r).setCell ⟨g,3,none⟩ s).cell? ⟨g1,o1,none⟩ = some v1 ∧ ((((c.setCell ⟨g,0,none⟩ p).setCell ⟨g,1,none⟩ q).setCell ⟨g,2,none⟩ r).setCell ⟨g,3,none⟩ s).cell? ⟨g2,o2,none⟩ = some v2 ∧ ((((c.setCell ⟨g,0,none⟩ p).setCell ⟨g,1,none⟩ q).setCell ⟨g,2,none⟩ r).setCell ⟨g,3,none⟩ s).cell? ⟨g3,o3,none⟩ = some v3 ∧ ((((c.setCell ⟨g,0,none⟩ p).setCell ⟨g,1,none⟩ q).setCell ⟨g,2,none⟩ r).setCell ⟨g,3,none⟩ s).cell? ⟨g4,o4,none⟩ = some v4 ∧ ((((c.setCell ⟨g,0,none⟩ p).setCell ⟨g,1,none⟩ q).setCell ⟨g,2,none⟩ r).setCell ⟨g,3,none⟩ s).cell? ⟨g5,o5,none⟩ = some v5 ∧ ((((c.setCell ⟨g,0,none⟩ p).setCell ⟨g,1,none⟩ q).setCell ⟨g,2,none⟩ r).setCell ⟨g,3,none⟩ s).cell? ⟨g6,o6,none⟩ = some v6 ∧ ((((c.setCell ⟨g,0,none⟩ p).setCell ⟨g,1,none⟩ q).setCell ⟨g,2,none⟩ r).setCell ⟨g,3,none⟩ s).cell? ⟨g7,o7,none⟩ = some v7 ∧ Kq w t g ((((c.setCell ⟨g,0,none⟩ p).setCell ⟨g,1,none⟩ q).setCell ⟨g,2,none⟩ r).setCell ⟨g,3,none⟩ s):=by
 obtain ⟨h0,h1,h2,h3,h4,h5,h6,h7,hk⟩:=h
 exact ⟨cell4F (x:=⟨g0,o0,none⟩) d0 h0,cell4F (x:=⟨g1,o1,none⟩) d1 h1,cell4F (x:=⟨g2,o2,none⟩) d2 h2,cell4F (x:=⟨g3,o3,none⟩) d3 h3,cell4F (x:=⟨g4,o4,none⟩) d4 h4,cell4F (x:=⟨g5,o5,none⟩) d5 h5,cell4F (x:=⟨g6,o6,none⟩) d6 h6,cell4F (x:=⟨g7,o7,none⟩) d7 h7,hk.put hp hq hr hs⟩
theorem keepZ8 {w c w1:World} {g0 o0 g1 o1 g2 o2 g3 o3 g4 o4 g5 o5 g6 o6 g7 o7:Nat} {v0 v1 v2 v3 v4 v5 v6 v7:Value} (h:c.cell? ⟨g0,o0,none⟩ = some v0 ∧ c.cell? ⟨g1,o1,none⟩ = some v1 ∧ c.cell? ⟨g2,o2,none⟩ = some v2 ∧ c.cell? ⟨g3,o3,none⟩ = some v3 ∧ c.cell? ⟨g4,o4,none⟩ = some v4 ∧ c.cell? ⟨g5,o5,none⟩ = some v5 ∧ c.cell? ⟨g6,o6,none⟩ = some v6 ∧ c.cell? ⟨g7,o7,none⟩ = some v7 ∧ Below w.heap.size w c) (hb:Below c.heap.size c w1):w1.cell? ⟨g0,o0,none⟩ = some v0 ∧ w1.cell? ⟨g1,o1,none⟩ = some v1 ∧ w1.cell? ⟨g2,o2,none⟩ = some v2 ∧ w1.cell? ⟨g3,o3,none⟩ = some v3 ∧ w1.cell? ⟨g4,o4,none⟩ = some v4 ∧ w1.cell? ⟨g5,o5,none⟩ = some v5 ∧ w1.cell? ⟨g6,o6,none⟩ = some v6 ∧ w1.cell? ⟨g7,o7,none⟩ = some v7 ∧ Below w.heap.size w w1:=by
 obtain ⟨h0,h1,h2,h3,h4,h5,h6,h7,hk⟩:=h
 exact ⟨cellK hb h0,cellK hb h1,cellK hb h2,cellK hb h3,cellK hb h4,cellK hb h5,cellK hb h6,cellK hb h7,hk.trans (hb.mono hk.size)⟩
theorem keepL12 {w c w1:World} {t:TypeId} {g:Nat} {g0 o0 g1 o1 g2 o2 g3 o3 g4 o4 g5 o5 g6 o6 g7 o7 g8 o8 g9 o9 g10 o10 g11 o11:Nat} {v0 v1 v2 v3 v4 v5 v6 v7 v8 v9 v10 v11:Value} (h:c.cell? ⟨g0,o0,none⟩ = some v0 ∧ c.cell? ⟨g1,o1,none⟩ = some v1 ∧ c.cell? ⟨g2,o2,none⟩ = some v2 ∧ c.cell? ⟨g3,o3,none⟩ = some v3 ∧ c.cell? ⟨g4,o4,none⟩ = some v4 ∧ c.cell? ⟨g5,o5,none⟩ = some v5 ∧ c.cell? ⟨g6,o6,none⟩ = some v6 ∧ c.cell? ⟨g7,o7,none⟩ = some v7 ∧ c.cell? ⟨g8,o8,none⟩ = some v8 ∧ c.cell? ⟨g9,o9,none⟩ = some v9 ∧ c.cell? ⟨g10,o10,none⟩ = some v10 ∧ c.cell? ⟨g11,o11,none⟩ = some v11 ∧ Kq w t g c) (hb:Below c.heap.size c w1):w1.cell? ⟨g0,o0,none⟩ = some v0 ∧ w1.cell? ⟨g1,o1,none⟩ = some v1 ∧ w1.cell? ⟨g2,o2,none⟩ = some v2 ∧ w1.cell? ⟨g3,o3,none⟩ = some v3 ∧ w1.cell? ⟨g4,o4,none⟩ = some v4 ∧ w1.cell? ⟨g5,o5,none⟩ = some v5 ∧ w1.cell? ⟨g6,o6,none⟩ = some v6 ∧ w1.cell? ⟨g7,o7,none⟩ = some v7 ∧ w1.cell? ⟨g8,o8,none⟩ = some v8 ∧ w1.cell? ⟨g9,o9,none⟩ = some v9 ∧ w1.cell? ⟨g10,o10,none⟩ = some v10 ∧ w1.cell? ⟨g11,o11,none⟩ = some v11 ∧ Kq w t g w1:=by
 obtain ⟨h0,h1,h2,h3,h4,h5,h6,h7,h8,h9,h10,h11,hk⟩:=h
 exact ⟨cellK hb h0,cellK hb h1,cellK hb h2,cellK hb h3,cellK hb h4,cellK hb h5,cellK hb h6,cellK hb h7,cellK hb h8,cellK hb h9,cellK hb h10,cellK hb h11,hk.below hb⟩
theorem keepQ12 {w c:World} {t:TypeId} {g:Nat} {g0 o0 g1 o1 g2 o2 g3 o3 g4 o4 g5 o5 g6 o6 g7 o7 g8 o8 g9 o9 g10 o10 g11 o11:Nat} {v0 v1 v2 v3 v4 v5 v6 v7 v8 v9 v10 v11:Value} (d0:g0 ≠ g) (d1:g1 ≠ g) (d2:g2 ≠ g) (d3:g3 ≠ g) (d4:g4 ≠ g) (d5:g5 ≠ g) (d6:g6 ≠ g) (d7:g7 ≠ g) (d8:g8 ≠ g) (d9:g9 ≠ g) (d10:g10 ≠ g) (d11:g11 ≠ g) (p q r s:Value) (hp:isB p) (hq:isS q) (hr:isB r) (hs:isS s) (h:c.cell? ⟨g0,o0,none⟩ = some v0 ∧ c.cell? ⟨g1,o1,none⟩ = some v1 ∧ c.cell? ⟨g2,o2,none⟩ = some v2 ∧ c.cell? ⟨g3,o3,none⟩ = some v3 ∧ c.cell? ⟨g4,o4,none⟩ = some v4 ∧ c.cell? ⟨g5,o5,none⟩ = some v5 ∧ c.cell? ⟨g6,o6,none⟩ = some v6 ∧ c.cell? ⟨g7,o7,none⟩ = some v7 ∧ c.cell? ⟨g8,o8,none⟩ = some v8 ∧ c.cell? ⟨g9,o9,none⟩ = some v9 ∧ c.cell? ⟨g10,o10,none⟩ = some v10 ∧ c.cell? ⟨g11,o11,none⟩ = some v11 ∧ Kq w t g c):((((c.setCell ⟨g,0,none⟩ p).setCell ⟨g,1,none⟩ q).setCell ⟨g,2,none⟩ r).setCell ⟨g,3,none⟩ s).cell? ⟨g0,o0,none⟩ = some v0 ∧ ((((c.setCell ⟨g,0,none⟩ p).setCell ⟨g,1,none⟩ q).setCell ⟨g,2,none⟩ r).setCell ⟨g,3,none⟩ s).cell? ⟨g1,o1,none⟩ = some v1 ∧ ((((c.setCell ⟨g,0,none⟩ p).setCell ⟨g,1,none⟩ q).setCell ⟨g,2,none⟩ r).setCell ⟨g,3,none⟩ s).cell? ⟨g2,o2,none⟩ = some v2 ∧ ((((c.setCell ⟨g,0,none⟩ p).setCell ⟨g,1,none⟩ q).setCell ⟨g,2,none⟩ r).setCell ⟨g,3,none⟩ s).cell? ⟨g3,o3,none⟩ = some v3 ∧ ((((c.setCell ⟨g,0,none⟩ p).setCell ⟨g,1,none⟩ q).setCell ⟨g,2,none⟩ r).setCell ⟨g,3,none⟩ s).cell? ⟨g4,o4,none⟩ = some v4 ∧ ((((c.setCell ⟨g,0,none⟩ p).setCell ⟨g,1,none⟩ q).setCell ⟨g,2,none⟩ r).setCell ⟨g,3,none⟩ s).cell? ⟨g5,o5,none⟩ = some v5 ∧ ((((c.setCell ⟨g,0,none⟩ p).setCell ⟨g,1,none⟩ q).setCell ⟨g,2,none⟩ r).setCell ⟨g,3,none⟩ s).cell? ⟨g6,o6,none⟩ = some v6 ∧ ((((c.setCell ⟨g,0,none⟩ p).setCell ⟨g,1,none⟩ q).setCell ⟨g,2,none⟩ r).setCell ⟨g,3,none⟩ s).cell? ⟨g7,o7,none⟩ = some v7 ∧ ((((c.setCell ⟨g,0,none⟩ p).setCell ⟨g,1,none⟩ q).setCell ⟨g,2,none⟩ r).setCell ⟨g,3,none⟩ s).cell? ⟨g8,o8,none⟩ = some v8 ∧ ((((c.setCell ⟨g,0,none⟩ p).setCell ⟨g,1,none⟩ q).setCell ⟨g,2,none⟩ r).setCell ⟨g,3,none⟩ s).cell? ⟨g9,o9,none⟩ = some v9 ∧ ((((c.setCell ⟨g,0,none⟩ p).setCell ⟨g,1,none⟩ q).setCell ⟨g,2,none⟩ r).setCell ⟨g,3,none⟩ s).cell? ⟨g10,o10,none⟩ = some v10 ∧ ((((c.setCell ⟨g,0,none⟩ p).setCell ⟨g,1,none⟩ q).setCell ⟨g,2,none⟩ r).setCell ⟨g,3,none⟩ s).cell? ⟨g11,o11,none⟩ = some v11 ∧ Kq w t g ((((c.setCell ⟨g,0,none⟩ p).setCell ⟨g,1,none⟩ q).setCell ⟨g,2,none⟩ r).setCell ⟨g,3,none⟩ s):=by
 obtain ⟨h0,h1,h2,h3,h4,h5,h6,h7,h8,h9,h10,h11,hk⟩:=h
 exact ⟨cell4F (x:=⟨g0,o0,none⟩) d0 h0,cell4F (x:=⟨g1,o1,none⟩) d1 h1,cell4F (x:=⟨g2,o2,none⟩) d2 h2,cell4F (x:=⟨g3,o3,none⟩) d3 h3,cell4F (x:=⟨g4,o4,none⟩) d4 h4,cell4F (x:=⟨g5,o5,none⟩) d5 h5,cell4F (x:=⟨g6,o6,none⟩) d6 h6,cell4F (x:=⟨g7,o7,none⟩) d7 h7,cell4F (x:=⟨g8,o8,none⟩) d8 h8,cell4F (x:=⟨g9,o9,none⟩) d9 h9,cell4F (x:=⟨g10,o10,none⟩) d10 h10,cell4F (x:=⟨g11,o11,none⟩) d11 h11,hk.put hp hq hr hs⟩
theorem keepZ12 {w c w1:World} {g0 o0 g1 o1 g2 o2 g3 o3 g4 o4 g5 o5 g6 o6 g7 o7 g8 o8 g9 o9 g10 o10 g11 o11:Nat} {v0 v1 v2 v3 v4 v5 v6 v7 v8 v9 v10 v11:Value} (h:c.cell? ⟨g0,o0,none⟩ = some v0 ∧ c.cell? ⟨g1,o1,none⟩ = some v1 ∧ c.cell? ⟨g2,o2,none⟩ = some v2 ∧ c.cell? ⟨g3,o3,none⟩ = some v3 ∧ c.cell? ⟨g4,o4,none⟩ = some v4 ∧ c.cell? ⟨g5,o5,none⟩ = some v5 ∧ c.cell? ⟨g6,o6,none⟩ = some v6 ∧ c.cell? ⟨g7,o7,none⟩ = some v7 ∧ c.cell? ⟨g8,o8,none⟩ = some v8 ∧ c.cell? ⟨g9,o9,none⟩ = some v9 ∧ c.cell? ⟨g10,o10,none⟩ = some v10 ∧ c.cell? ⟨g11,o11,none⟩ = some v11 ∧ Below w.heap.size w c) (hb:Below c.heap.size c w1):w1.cell? ⟨g0,o0,none⟩ = some v0 ∧ w1.cell? ⟨g1,o1,none⟩ = some v1 ∧ w1.cell? ⟨g2,o2,none⟩ = some v2 ∧ w1.cell? ⟨g3,o3,none⟩ = some v3 ∧ w1.cell? ⟨g4,o4,none⟩ = some v4 ∧ w1.cell? ⟨g5,o5,none⟩ = some v5 ∧ w1.cell? ⟨g6,o6,none⟩ = some v6 ∧ w1.cell? ⟨g7,o7,none⟩ = some v7 ∧ w1.cell? ⟨g8,o8,none⟩ = some v8 ∧ w1.cell? ⟨g9,o9,none⟩ = some v9 ∧ w1.cell? ⟨g10,o10,none⟩ = some v10 ∧ w1.cell? ⟨g11,o11,none⟩ = some v11 ∧ Below w.heap.size w w1:=by
 obtain ⟨h0,h1,h2,h3,h4,h5,h6,h7,h8,h9,h10,h11,hk⟩:=h
 exact ⟨cellK hb h0,cellK hb h1,cellK hb h2,cellK hb h3,cellK hb h4,cellK hb h5,cellK hb h6,cellK hb h7,cellK hb h8,cellK hb h9,cellK hb h10,cellK hb h11,hk.trans (hb.mono hk.size)⟩

set_option maxRecDepth 100000 in
set_option maxHeartbeats 1600000 in
theorem under_any {a b:Int} {u:Value} (w:World) (hx:FrV w u a b):Calls Try.prog 63 #[u] w (IntPost w (ben b)):=by
 generalize hP:IntPost w (ben b) = Post
 have HP:=hide hP
 clear hP
 obtain ⟨xn,xa,xl,xk,xm,xb,xi,xj,rfl,hx1,hx2⟩:=FrV.parts hx
 have hl:=hx2.sign.2
 replace hl:=hide hl
 obtain ⟨W,hW⟩:∃ W,((w.alloc (.cells #[.bool xn,.slice xa xl xk,.bool xm,.slice xb xi xj] 71)).alloc (.cells #[.bool false,.slice none 0 0] 38)) = W:=⟨_,rfl⟩
 have bx:Blk W w.heap.size 71 #[.bool xn,.slice xa xl xk,.bool xm,.slice xb xi xj]:=by rw [← hW]; exact (Blk.new w _ _).alloc _
 have bR:Blk W (w.heap.size + 1) 38 #[.bool false,.slice none 0 0]:=by rw [← hW]; exact Blk.new_at _ _ _ (by simp)
 have sb:Below w.heap.size w W:=by rw [← hW]; exact ((Below.refl w.heap.size w).alloc (Nat.le_refl _) _).alloc (by simp) _
 obtain ⟨cx0,cx1,cx2,cx3,-⟩:=bx.c4
 have hK:Kp w 38 (w.heap.size + 1) W:=⟨sb,by omega,_,_,_,_,bR⟩
 have HW:=hide hW
 clear hW bx bR
 go_enter Try.func63,Try.ntmps63
 go_upto_region 1 with (fail)
 rw [HW.out]
 clear HW
 by_cases h0:b = 0
 ·have hi0:xi = 0:=by rw [hl.out,h0]; rfl
  subst hi0
  have HB:Hid (ben b = 1):=hide (by rw [ben,if_pos h0])
  clear hl h0
  go_wp2_with fail
  refine (Of_any 1 W (by decide) (by decide)).mono ?_
  rintro e w1 ⟨r,rfl,hr,hb1⟩
  obtain ⟨rn,ra,rl,rk,rfl⟩:=hr.parts
  obtain ⟨_,_,_,_,k0,k1,kf0,kf1,hX4⟩:=Kp.at (t:=38) (g:=w.heap.size + 1) (w:=w) hK hb1
  have hI:=hr.st2 hX4 (.bool rn) (.slice ra rl rk)
  obtain ⟨e0,e1,-⟩:=(hX4.two (.bool rn) (.slice ra rl rk)).c2
  go_wp2_with fail
  refine bodyPost_ret (v:=Value.agg #[.bool rn,.slice ra rl rk]) (by simp [results,Try.results63,go_sem,e0,e1]) rfl ?_
  rw [← HP.out,HB.out]
  exact ⟨_,rfl,hI,set2b (hK.below hb1).bel (by omega) _ _ _ _⟩
 ·have hi0:(xi:Int) ≠ 0:=by intro e; apply h0; have:=(dg_eq_nil BB2).1 (List.length_eq_zero_iff.1 (show (dg BB b.natAbs).length = 0 by have hl:=hl.out; unfold len at hl; omega)); omega
  have e1:((xi:Int) == 0) = false:=beq_eq_false_iff_ne.2 hi0
  have e2:decide (xi = 0) = false:=decide_eq_false (by omega)
  have HB:Hid (ben b = b):=hide (by rw [ben,if_neg h0])
  have hb1:=Below.refl W.heap.size W
  obtain ⟨_,_,_,_,k0,k1,kf0,kf1,hX4⟩:=Kp.at (t:=38) (g:=w.heap.size + 1) (w:=w) hK hb1
  have hI:=(hx2.below sb (Nat.le_refl _)).st2 hX4 (.bool xm) (.slice xb xi xj)
  clear hl h0 hi0
  obtain ⟨e3,e4,-⟩:=(hX4.two (.bool xm) (.slice xb xi xj)).c2
  go_wp2_with fail
  refine bodyPost_ret (v:=.agg #[.bool xm,.slice xb xi xj]) (by simp [results,Try.results63,go_sem,e3,e4]) rfl ?_
  rw [← HP.out,HB.out]
  exact ⟨_,rfl,hI,set2b sb (by omega) _ _ _ _⟩

theorem under_at {w c:World} {q:Rat} {u:Value} (hx:FracV w u q) (hB:Below w.heap.size w c):Calls Try.prog 63 #[u] c (IntPost c (q.den:Int)):=by
 have h:=under_any c (hx.below hB (Nat.le_refl _))
 rwa [ben_und] at h

set_option maxRecDepth 100000 in
set_option maxHeartbeats 1600000 in
theorem fcopied_any {x:Int} {u:Value} (w:World) (hx:IntV w u x) (hn:Sm x):Calls Try.prog 68 #[u] w (IntPost w x):=by
 generalize hP:IntPost w x = Post
 have HP:=hide hP
 clear hP
 obtain ⟨xn,xa,xl,xk,rfl⟩:=hx.parts
 obtain ⟨W,hW⟩:∃ W,((w.alloc (.cells #[.bool xn,.slice xa xl xk] 38)).alloc (.cells #[.bool false,.slice none 0 0] 38)) = W:=⟨_,rfl⟩
 have bx:Blk W w.heap.size 38 #[.bool xn,.slice xa xl xk]:=by rw [← hW]; exact (Blk.new w _ _).alloc _
 have bR:Blk W (w.heap.size + 1) 38 #[.bool false,.slice none 0 0]:=by rw [← hW]; exact Blk.new_at _ _ _ (by simp)
 have sb:Below w.heap.size w W:=by rw [← hW]; exact ((Below.refl w.heap.size w).alloc (Nat.le_refl _) _).alloc (by simp) _
 obtain ⟨cx0,cx1,-⟩:=bx.c2
 have hK:Kp w 38 (w.heap.size + 1) W:=⟨sb,by omega,_,_,_,_,bR⟩
 have HW:=hide hW
 clear hW bx bR
 go_enter Try.func68,Try.ntmps68
 go_upto_region 1 with (fail)
 rw [HW.out]
 clear HW
 have s0:Sm 0:=sm10 (by decide)
 go_wp2_with fail
 refine (Add_any W (hx.below sb (Nat.le_refl _)) (IntV.zero W) hn s0).mono ?_
 rintro e w1 ⟨r,rfl,hr,hb1⟩
 rw [Int.add_zero] at hr
 obtain ⟨rn,ra,rl,rk,rfl⟩:=hr.parts
 obtain ⟨_,_,_,_,k0,k1,kf0,kf1,hX4⟩:=Kp.at (t:=38) (g:=w.heap.size + 1) (w:=w) hK hb1
 have hI:=hr.st2 hX4 (.bool rn) (.slice ra rl rk)
 obtain ⟨e0,e1,-⟩:=(hX4.two (.bool rn) (.slice ra rl rk)).c2
 go_wp2_with fail
 refine bodyPost_ret (v:=Value.agg #[.bool rn,.slice ra rl rk]) (by simp [results,Try.results68,go_sem,e0,e1]) rfl ?_
 rw [← HP.out]
 exact ⟨_,rfl,hI,set2b (hK.below hb1).bel (by omega) _ _ _ _⟩

set_option maxRecDepth 100000 in
set_option maxHeartbeats 1600000 in
theorem isOne_any {x:Int} {u:Value} (w:World) (hx:IntV w u x) (hn:Sm x):Calls Try.prog 69 #[u] w fun e w'=>e = .returned (.bool (decide (x = 1))) ∧ Below w.heap.size w w':=by
 obtain ⟨xn,xa,xl,xk,rfl⟩:=hx.parts
 obtain ⟨C,hC⟩:∃ C,ordZ x 1 = C:=⟨_,rfl⟩
 have HC:=hide hC
 clear hC
 generalize hr:decide (x = 1) = r
 have HR:Hid ((C == 0) = r):=hide (by rw [← hr,← HC.out]; unfold ordZ; by_cases h:x = 1 <;> simp [h]; omega)
 clear hr
 have s1:Sm 1:=sm_small (by decide)
 obtain ⟨W,hW⟩:∃ W,(w.alloc (.cells #[.bool xn,.slice xa xl xk] 38)) = W:=⟨_,rfl⟩
 have bx:Blk W w.heap.size 38 #[.bool xn,.slice xa xl xk]:=by rw [← hW]; exact Blk.new w _ _
 have sb:Below w.heap.size w W:=by rw [← hW]; exact (Below.refl w.heap.size w).alloc (Nat.le_refl _) _
 obtain ⟨cx0,cx1,-⟩:=bx.c2
 have HW:=hide hW
 clear hW bx
 go_enter Try.func69,Try.ntmps69
 go_upto_region 1 with (fail)
 rw [HW.out]
 clear HW
 have sb1:=sb.drew
 go_region_held3 (fun w'=>w'.cell? ⟨w.heap.size,0,none⟩ = some (.bool xn) ∧ w'.cell? ⟨w.heap.size,1,none⟩ = some (.slice xa xl xk) ∧ Below w.heap.size w w')
  (first | with_reducible exact keepZ2 (by assumption) hb1 | go_keep)
  (first
   | (go_at_call_of 21 (Value.int .i64 1); (with_reducible refine (Of_any 1 _ (by decide) (by decide)).mono ?_); rintro e wN ⟨rA,rfl,hA,hb1⟩)
   | (go_at_call_of 81 rA; (with_reducible refine (Cmp_at (hx.below (by go_split_ands; assumption) (Nat.le_refl _)) hA hn s1 (Below.refl _ _) HC.out).mono ?_); rintro e wN ⟨rfl,hb1⟩))
 rename_i hS
 have hB:=hS.2.2
 go_wp2_with fail
 go_ret
 exact ⟨by rw [← HR.out]; rfl,hB⟩

set_option maxRecDepth 100000 in
set_option maxHeartbeats 1600000 in
theorem FOf_any {x:Int} {u:Value} (w:World) (hx:IntV w u x) (hn:Sm x):Calls Try.prog 49 #[u] w (FrPost w x 0):=by
 generalize hP:FrPost w x 0 = Post
 have HP:=hide hP
 clear hP
 obtain ⟨xn,xa,xl,xk,rfl⟩:=hx.parts
 obtain ⟨W,hW⟩:∃ W,((w.alloc (.cells #[.bool xn,.slice xa xl xk] 38)).alloc (.cells #[.bool false,.slice none 0 0,.bool false,.slice none 0 0] 71)) = W:=⟨_,rfl⟩
 have bx:Blk W w.heap.size 38 #[.bool xn,.slice xa xl xk]:=by rw [← hW]; exact (Blk.new w _ _).alloc _
 have bR:Blk W (w.heap.size + 1) 71 #[.bool false,.slice none 0 0,.bool false,.slice none 0 0]:=by rw [← hW]; exact Blk.new_at _ _ _ (by simp)
 have sb:Below w.heap.size w W:=by rw [← hW]; exact ((Below.refl w.heap.size w).alloc (Nat.le_refl _) _).alloc (by simp) _
 obtain ⟨cx0,cx1,-⟩:=bx.c2
 have hK:Kq w 71 (w.heap.size + 1) W:=⟨sb,by omega,_,_,_,_,_,_,_,_,bR⟩
 have HW:=hide hW
 clear hW bx bR
 go_enter Try.func49,Try.ntmps49
 go_upto_region 1 with (fail)
 rw [HW.out]
 clear HW
 go_wp2_with fail
 refine (fcopied_any W (hx.below sb (Nat.le_refl _)) hn).mono ?_
 rintro e w1 ⟨r,rfl,hr,hb1⟩
 obtain ⟨rn,ra,rl,rk,rfl⟩:=hr.parts
 obtain ⟨_,_,_,_,_,_,_,_,k0,k1,k2,k3,kf0,kf1,kf2,kf3,hX4⟩:=Kq.at (t:=71) (g:=w.heap.size + 1) (w:=w) hK hb1
 have hI:=(FrV.mk hr (IntV.zero w1)).st4 hX4 (.bool rn) (.slice ra rl rk) (.bool false) (.slice none 0 0)
 obtain ⟨e0,e1,e2,e3,-⟩:=(hX4.four (.bool rn) (.slice ra rl rk) (.bool false) (.slice none 0 0)).c4
 go_wp2_with fail
 refine bodyPost_ret (v:=.agg #[.bool rn,.slice ra rl rk,.bool false,.slice none 0 0]) (by simp [results,Try.results49,go_sem,e0,e1,e2,e3]) rfl ?_
 rw [← HP.out]
 exact ⟨_,rfl,hI,set4b (hK.below hb1).bel (by omega) _ _ _ _⟩


set_option maxRecDepth 100000 in
set_option maxHeartbeats 1600000 in
theorem FMake_any {x y:Int} {u v:Value} (w:World) (hx:IntV w u x) (hy:IntV w v y) (hn:Sm x) (hm:Sm y):Calls Try.prog 83 #[u,v] w (FracPost w (Rat.divInt x y)):=by
 generalize hP:FracPost w (Rat.divInt x y) = Post
 have HP:=hide hP
 clear hP
 obtain ⟨xn,xa,xl,xk,rfl⟩:=hx.parts
 obtain ⟨yn,ya,yl,yk,rfl⟩:=hy.parts
 obtain ⟨W,hW⟩:∃ W,(((w.alloc (.cells #[.bool xn,.slice xa xl xk] 38)).alloc (.cells #[.bool yn,.slice ya yl yk] 38)).alloc (.cells #[.bool false,.slice none 0 0,.bool false,.slice none 0 0] 71)) = W:=⟨_,rfl⟩
 have bx:Blk W w.heap.size 38 #[.bool xn,.slice xa xl xk]:=by rw [← hW]; exact ((Blk.new w _ _).alloc _).alloc _
 have by_:Blk W (w.heap.size + 1) 38 #[.bool yn,.slice ya yl yk]:=by rw [← hW]; exact (Blk.new_at _ _ _ (by simp)).alloc _
 have bR:Blk W (w.heap.size + 1 + 1) 71 #[.bool false,.slice none 0 0,.bool false,.slice none 0 0]:=by rw [← hW]; exact Blk.new_at _ _ _ (by simp)
 have sb:Below w.heap.size w W:=by rw [← hW]; exact (((Below.refl w.heap.size w).alloc (Nat.le_refl _) _).alloc (by simp) _).alloc (by simp; omega) _
 obtain ⟨cx0,cx1,-⟩:=bx.c2
 obtain ⟨cy0,cy1,-⟩:=by_.c2
 have hK:Kq w 71 (w.heap.size + 1 + 1) W:=⟨sb,by omega,_,_,_,_,_,_,_,_,bR⟩
 have HW:=hide hW
 clear hW
 go_enter Try.func83,Try.ntmps83
 go_upto_region 1 with (fail)
 rw [HW.out]
 clear HW
 clear hK cx0 cx1 cy0 cy1
 replace hx:=hx.below sb (Nat.le_refl _)
 replace hy:=hy.below sb (Nat.le_refl _)
 have s0:Sm 0:=sm10 (by decide)
 have sG:Sm ((Nat.gcd x.natAbs y.natAbs:Nat):Int):=sm_gcd hn hm
 have sgs:Sm (gsg x y):=by unfold gsg; split; exact sm_neg sG; exact sG
 have sD:Sm ((Rat.divInt x y).den:Int):=sm_den hm
 obtain ⟨y0,y1,-⟩:=by_.c2
 obtain ⟨C,hC⟩:∃ C,ordZ y 0 = C:=⟨_,rfl⟩
 have HC0:Hid ((C == 0) = decide (y = 0)):=hide (by rw [← hC]; unfold ordZ; by_cases h:y = 0 <;> simp [h]; omega)
 have HC1:Hid (decide (C < 0) = decide (y < 0)):=hide (by rw [← hC]; unfold ordZ; by_cases h:y < 0 <;> simp [h]; omega)
 have HC:=hide hC
 clear hC
 go_wp2_with fail
 refine (Cmp_at hy (IntV.zero W) hm s0 (Below.refl _ _) HC.out).mono ?_
 rintro e w1 ⟨rfl,hb1⟩
 clear y0 y1
 replace bx:=bx.below hb1 bx.lt
 replace by_:=by_.below hb1 by_.lt
 replace bR:=bR.below hb1 bR.lt
 replace hx:=hx.below hb1 (Nat.le_refl _)
 replace hy:=hy.below hb1 (Nat.le_refl _)
 replace sb:=sb.trans (hb1.mono sb.size)
 clear hb1
 by_cases h0:y = 0
 ·have e0:(C == 0) = true:=by rw [HC0.out,decide_eq_true h0]
  have e1:decide (C = 0) = true:=by rw [← e0]; by_cases h:C = 0 <;> simp [h]
  have HQ:Hid (Rat.divInt x y = 0):=hide (by rw [h0,Rat.divInt_zero])
  clear h0 hm hy
  obtain ⟨r0,r1,r2,r3,rf⟩:=bR.c4
  have rf0:=rf 0
  have rf1:=rf 1
  have rf2:=rf 2
  have rf3:=rf 3
  have hI:=(FrV.mk (IntV.zero w1) (IntV.zero w1)).st4 bR (.bool false) (.slice none 0 0) (.bool false) (.slice none 0 0)
  obtain ⟨e4,e5,e6,e7,-⟩:=(bR.four (.bool false) (.slice none 0 0) (.bool false) (.slice none 0 0)).c4
  go_wp2_with fail
  refine bodyPost_ret (v:=.agg #[.bool false,.slice none 0 0,.bool false,.slice none 0 0]) (by simp [results,Try.results83,go_sem,e4,e5,e6,e7]) rfl ?_
  rw [← HP.out,HQ.out]
  exact ⟨_,rfl,hI,set4b sb (by omega) _ _ _ _⟩
 ·have e0:(C == 0) = false:=by rw [HC0.out,decide_eq_false h0]
  have e1:decide (C = 0) = false:=by rw [← e0]; by_cases h:C = 0 <;> simp [h]
  have HNE:=hide h0
  have HG:=hide (gsg_ne (x:=x) h0)
  have HO:=hide (make_over (x:=x) h0)
  have HL:=hide (make_below (x:=x) h0)
  clear h0
  obtain ⟨x0,x1,-⟩:=bx.c2
  obtain ⟨y0,y1,-⟩:=by_.c2
  go_wp2_with fail
  refine (Gcd_any w1 hx hy hn hm).mono ?_
  rintro e w2 ⟨g,rfl,hg,hb2⟩
  obtain ⟨gn,ga,gl,gk,rfl⟩:=hg.parts
  clear x0 x1 y0 y1
  replace bx:=bx.below hb2 bx.lt
  replace by_:=by_.below hb2 by_.lt
  replace bR:=bR.below hb2 bR.lt
  replace hx:=hx.below hb2 (Nat.le_refl _)
  replace hy:=hy.below hb2 (Nat.le_refl _)
  replace sb:=sb.trans (hb2.mono sb.size)
  clear hb2
  have hGL:=bR.lt
  obtain ⟨w3,hw3⟩:∃ w3,w2.alloc (.cells #[.bool gn,.slice ga gl gk] 38) = w3:=⟨_,rfl⟩
  have bg:Blk w3 w2.heap.size 38 #[.bool gn,.slice ga gl gk]:=by rw [← hw3]; exact Blk.new _ _ _
  have hb3:Below w2.heap.size w2 w3:=by rw [← hw3]; exact (Below.refl _ _).alloc (Nat.le_refl _) _
  replace hg:=hg.below hb3 (Nat.le_refl _)
  replace bx:=bx.below hb3 bx.lt
  replace by_:=by_.below hb3 by_.lt
  replace bR:=bR.below hb3 bR.lt
  replace hx:=hx.below hb3 (Nat.le_refl _)
  replace hy:=hy.below hb3 (Nat.le_refl _)
  replace sb:=sb.trans (hb3.mono sb.size)
  clear hb3
  have HW:=hide hw3
  clear hw3
  go_upto_region 4 with (fail)
  rw [HW.out]
  clear HW
  generalize hGG:w2.heap.size = G at bg hGL ⊢
  clear hGG
  obtain ⟨y0,y1,-⟩:=by_.c2
  go_wp2_with fail
  refine (Cmp_at hy (IntV.zero w3) hm s0 (Below.refl _ _) HC.out).mono ?_
  rintro e w4 ⟨rfl,hb4⟩
  clear y0 y1
  replace bx:=bx.below hb4 bx.lt
  replace by_:=by_.below hb4 by_.lt
  replace bR:=bR.below hb4 bR.lt
  replace bg:=bg.below hb4 bg.lt
  replace hx:=hx.below hb4 (Nat.le_refl _)
  replace hy:=hy.below hb4 (Nat.le_refl _)
  replace hg:=hg.below hb4 (Nat.le_refl _)
  replace sb:=sb.trans (hb4.mono sb.size)
  clear hb4
  clear e0 e1
  go_upto_if 21 with (fail)
  generalize hlt:decide (C < 0) = D at *
  have hD:D = decide (y < 0):=HC1.out
  clear hlt
  have HD:=hide hD
  clear hD
  go_cut [] from 22 to 23 (fun wc=>∃ (n:Bool) (a:Option Addr) (l k:Nat),Blk wc w.heap.size 38 #[.bool xn,.slice xa xl xk] ∧ Blk wc (w.heap.size + 1) 38 #[.bool yn,.slice ya yl yk] ∧ (∃ (n1:Bool) (a1:Option Addr) (l1 k1:Nat) (n2:Bool) (a2:Option Addr) (l2 k2:Nat),Blk wc (w.heap.size + 1 + 1) 71 #[.bool n1,.slice a1 l1 k1,.bool n2,.slice a2 l2 k2]) ∧ Blk wc G 38 #[.bool n,.slice a l k] ∧ IntV wc (.agg #[.bool xn,.slice xa xl xk]) x ∧ IntV wc (.agg #[.bool yn,.slice ya yl yk]) y ∧ IntV wc (.agg #[.bool n,.slice a l k]) (gsg x y) ∧ Below w.heap.size w wc)
  case first=>
   have hGw:w.heap.size ≤ G:=by omega
   cases D with
   | true=>
    have HE:Hid (gsg x y = -((Nat.gcd x.natAbs y.natAbs:Nat):Int)):=hide (by have h:=HD.out; unfold gsg; rw [if_pos (by simpa using h.symm)])
    obtain ⟨g0,g1,gf⟩:=bg.c2
    go_wp2_with fail
    refine (Neg_any w4 hg sG).mono ?_
    rintro e w5 ⟨r,rfl,hr,hb5⟩
    obtain ⟨rn,ra,rl,rk,rfl⟩:=hr.parts
    clear g0 g1 gf
    replace bx:=bx.below hb5 bx.lt
    replace by_:=by_.below hb5 by_.lt
    replace bR:=bR.below hb5 bR.lt
    replace bg:=bg.below hb5 bg.lt
    replace hx:=hx.below hb5 (Nat.le_refl _)
    replace hy:=hy.below hb5 (Nat.le_refl _)
    replace hg:=hg.below hb5 (Nat.le_refl _)
    replace sb:=sb.trans (hb5.mono sb.size)
    clear hb5
    obtain ⟨g0,g1,gf⟩:=bg.c2
    have gf0:=gf 0
    have gf1:=gf 1
    go_wp2_with fail
    go_meet
    rw [HE.out]
    exact ⟨rn,ra,rl,rk,(bx.far (p:=⟨G,0,none⟩) (by simp; omega) _).far (p:=⟨G,1,none⟩) (by simp; omega) _,(by_.far (p:=⟨G,0,none⟩) (by simp; omega) _).far (p:=⟨G,1,none⟩) (by simp; omega) _,⟨_,_,_,_,_,_,_,_,(bR.far (p:=⟨G,0,none⟩) (by simp; omega) _).far (p:=⟨G,1,none⟩) (by simp; omega) _⟩,bg.two _ _,hx.st2 bg _ _,hy.st2 bg _ _,hr.st2 bg _ _,set2b sb hGw _ _ _ _⟩
   | false=>
    have HE:Hid (gsg x y = ((Nat.gcd x.natAbs y.natAbs:Nat):Int)):=hide (by have h:=HD.out; unfold gsg; rw [if_neg (by simpa using h.symm)])
    go_wp2_with fail
    go_meet
    rw [HE.out]
    exact ⟨_,_,_,_,bx,by_,⟨_,_,_,_,_,_,_,_,bR⟩,bg,hx,hy,hg,sb⟩
  case rest=>
   clear bx by_ bR bg hx hy hg sb
   obtain ⟨gn,ga,gl,gk,bx,by_,⟨_,_,_,_,_,_,_,_,bR⟩,bg,hx,hy,hg,sb⟩:=hcut
   obtain ⟨x0,x1,-⟩:=bx.c2
   obtain ⟨y0,y1,-⟩:=by_.c2
   obtain ⟨g0,g1,-⟩:=bg.c2
   go_wp2_with fail
   refine (Div_any _ hx hg hn sgs).mono ?_
   rintro e w6 ⟨p,t,rfl,hp,ht,hbw6⟩
   rw [if_neg HG.out] at hp ht
   obtain ⟨pn,pa,pl,pc,rfl⟩:=hp.parts
   obtain ⟨tn,ta,tl,tc,rfl⟩:=ht.parts
   clear x0 x1 y0 y1 g0 g1
   replace bx:=bx.below hbw6 bx.lt
   replace by_:=by_.below hbw6 by_.lt
   replace bR:=bR.below hbw6 bR.lt
   replace bg:=bg.below hbw6 bg.lt
   replace hx:=hx.below hbw6 (Nat.le_refl _)
   replace hy:=hy.below hbw6 (Nat.le_refl _)
   replace hg:=hg.below hbw6 (Nat.le_refl _)
   replace sb:=sb.trans (hbw6.mono sb.size)
   clear hbw6
   have hLp:=bg.lt
   obtain ⟨w6z,hzw6⟩:∃ w5,(w6.alloc (.cells #[.bool false,.slice none 0 0] 38)).alloc (.cells #[.bool false,.slice none 0 0] 38) = w5:=⟨_,rfl⟩
   obtain ⟨⟨q0,q1,q2,q3,q4,q5⟩,w6b,hww6,hBp,hBt,hbz⟩:=boxes2 hzw6 (.bool pn) (.slice pa pl pc) (.bool tn) (.slice ta tl tc)
   replace hp:=hp.below hbz (Nat.le_refl _)
   replace bx:=bx.below hbz bx.lt
   replace by_:=by_.below hbz by_.lt
   replace bR:=bR.below hbz bR.lt
   replace bg:=bg.below hbz bg.lt
   replace hx:=hx.below hbz (Nat.le_refl _)
   replace hy:=hy.below hbz (Nat.le_refl _)
   replace hg:=hg.below hbz (Nat.le_refl _)
   replace sb:=sb.trans (hbz.mono sb.size)
   clear hbz
   have HW:=hide hww6
   clear hww6
   go_upto_region 7 with (fail)
   rw [HW.out]
   clear HW hzw6 q0 q1 q2 q3 q4 q5 ht hBt
   generalize hgp:w6.heap.size = Gp at hBp hLp ⊢
   clear hgp
   rw [HO.out] at hp
   obtain ⟨x0,x1,-⟩:=bx.c2
   obtain ⟨y0,y1,-⟩:=by_.c2
   obtain ⟨g0,g1,-⟩:=bg.c2
   go_wp2_with fail
   refine (Div_any _ hy hg hm sgs).mono ?_
   rintro e w8 ⟨d,u,rfl,hd,hu,hbw8⟩
   rw [if_neg HG.out] at hd hu
   obtain ⟨dn,da,dl,dc,rfl⟩:=hd.parts
   obtain ⟨un,ua,ul,uc,rfl⟩:=hu.parts
   clear x0 x1 y0 y1 g0 g1
   replace bx:=bx.below hbw8 bx.lt
   replace by_:=by_.below hbw8 by_.lt
   replace bR:=bR.below hbw8 bR.lt
   replace bg:=bg.below hbw8 bg.lt
   replace hBp:=hBp.below hbw8 hBp.lt
   replace hx:=hx.below hbw8 (Nat.le_refl _)
   replace hy:=hy.below hbw8 (Nat.le_refl _)
   replace hg:=hg.below hbw8 (Nat.le_refl _)
   replace hp:=hp.below hbw8 (Nat.le_refl _)
   replace sb:=sb.trans (hbw8.mono sb.size)
   clear hbw8
   have hLd:=hBp.lt
   obtain ⟨w8z,hzw8⟩:∃ w5,(w8.alloc (.cells #[.bool false,.slice none 0 0] 38)).alloc (.cells #[.bool false,.slice none 0 0] 38) = w5:=⟨_,rfl⟩
   obtain ⟨⟨q0,q1,q2,q3,q4,q5⟩,w8b,hww8,hBd,hBu,hbz⟩:=boxes2 hzw8 (.bool dn) (.slice da dl dc) (.bool un) (.slice ua ul uc)
   replace hd:=hd.below hbz (Nat.le_refl _)
   replace bx:=bx.below hbz bx.lt
   replace by_:=by_.below hbz by_.lt
   replace bR:=bR.below hbz bR.lt
   replace bg:=bg.below hbz bg.lt
   replace hBp:=hBp.below hbz hBp.lt
   replace hx:=hx.below hbz (Nat.le_refl _)
   replace hy:=hy.below hbz (Nat.le_refl _)
   replace hg:=hg.below hbz (Nat.le_refl _)
   replace hp:=hp.below hbz (Nat.le_refl _)
   replace sb:=sb.trans (hbz.mono sb.size)
   clear hbz
   have HW:=hide hww8
   clear hww8
   go_upto_region 8 with (fail)
   rw [HW.out]
   clear HW hzw8 q0 q1 q2 q3 q4 q5 hu hBu
   generalize hgd:w8.heap.size = Gd at hBd hLd ⊢
   clear hgd
   rw [HL.out] at hd
   obtain ⟨d0,d1,-⟩:=hBd.c2
   go_wp2_with fail
   refine (isOne_any _ hd sD).mono ?_
   rintro e w10 ⟨rfl,hb10⟩
   clear d0 d1
   replace bx:=bx.below hb10 bx.lt
   replace by_:=by_.below hb10 by_.lt
   replace bR:=bR.below hb10 bR.lt
   replace bg:=bg.below hb10 bg.lt
   replace hBp:=hBp.below hb10 hBp.lt
   replace hBd:=hBd.below hb10 hBd.lt
   replace hx:=hx.below hb10 (Nat.le_refl _)
   replace hy:=hy.below hb10 (Nat.le_refl _)
   replace hg:=hg.below hb10 (Nat.le_refl _)
   replace hp:=hp.below hb10 (Nat.le_refl _)
   replace hd:=hd.below hb10 (Nat.le_refl _)
   replace sb:=sb.trans (hb10.mono sb.size)
   clear hb10
   obtain ⟨r0,r1,r2,r3,rf⟩:=bR.c4
   have rf0:=rf 0
   have rf1:=rf 1
   have rf2:=rf 2
   have rf3:=rf 3
   obtain ⟨d0,d1,df⟩:=hBd.c2
   have df0:=df 0
   have df1:=df 1
   obtain ⟨p0,p1,-⟩:=hBp.c2
   by_cases h1:((Rat.divInt x y).den:Int) = 1
   ·have e1:=decide_eq_true h1
    have HU:Hid (und (Rat.divInt x y) = 0):=hide (by unfold und; rw [if_pos (by omega)])
    clear h1 HL
    have n1:w.heap.size + 1 + 1 ≠ Gd:=by omega
    have n2:Gp ≠ Gd:=by omega
    have hBd2:=hBd.two (.bool false) (.slice none 0 0)
    have hBp2:=(hBp.far (p:=⟨Gd,0,none⟩) n2 (.bool false)).far (p:=⟨Gd,1,none⟩) n2 (.slice none 0 0)
    have bR2:=(bR.far (p:=⟨Gd,0,none⟩) n1 (.bool false)).far (p:=⟨Gd,1,none⟩) n1 (.slice none 0 0)
    have hp2:=hp.st2 hBd (.bool false) (.slice none 0 0)
    have sb2:=set2b (g:=Gd) sb (by omega) 0 1 (.bool false) (.slice none 0 0)
    go_upto_region 10 with (fail)
    generalize (w10.setCell ⟨Gd,0,none⟩ (.bool false)).setCell ⟨Gd,1,none⟩ (.slice none 0 0) = w11 at hBd2 hBp2 bR2 hp2 sb2 ⊢
    clear d0 d1 df df0 df1 p0 p1 r0 r1 r2 r3 rf rf0 rf1 rf2 rf3
    obtain ⟨r0,r1,r2,r3,rf⟩:=bR2.c4
    have rf0:=rf 0
    have rf1:=rf 1
    have rf2:=rf 2
    have rf3:=rf 3
    obtain ⟨d0,d1,-⟩:=hBd2.c2
    obtain ⟨p0,p1,-⟩:=hBp2.c2
    have hI:=(FrV.mk hp2 (IntV.zero w11)).st4 bR2 (.bool pn) (.slice pa pl pc) (.bool false) (.slice none 0 0)
    obtain ⟨e4,e5,e6,e7,-⟩:=(bR2.four (.bool pn) (.slice pa pl pc) (.bool false) (.slice none 0 0)).c4
    go_wp2_with fail
    refine bodyPost_ret (v:=.agg #[.bool pn,.slice pa pl pc,.bool false,.slice none 0 0]) (by simp [results,Try.results83,go_sem,e4,e5,e6,e7]) rfl ?_
    rw [← HP.out]
    exact ⟨_,rfl,by unfold FracV; rw [HU.out]; exact hI,set4b sb2 (by omega) _ _ _ _⟩
   ·have e1:=decide_eq_false h1
    have HU:Hid (und (Rat.divInt x y) = ((Rat.divInt x y).den:Int)):=hide (by unfold und; rw [if_neg (by omega)])
    clear h1 HL r0 r1 r2 r3 rf rf0 rf1 rf2 rf3 d0 d1 df df0 df1 p0 p1
    go_upto_region 10 with (fail)
    obtain ⟨r0,r1,r2,r3,rf⟩:=bR.c4
    have rf0:=rf 0
    have rf1:=rf 1
    have rf2:=rf 2
    have rf3:=rf 3
    obtain ⟨d0,d1,-⟩:=hBd.c2
    obtain ⟨p0,p1,-⟩:=hBp.c2
    have hI:=(FrV.mk hp hd).st4 bR (.bool pn) (.slice pa pl pc) (.bool dn) (.slice da dl dc)
    obtain ⟨e4,e5,e6,e7,-⟩:=(bR.four (.bool pn) (.slice pa pl pc) (.bool dn) (.slice da dl dc)).c4
    go_wp2_with fail
    refine bodyPost_ret (v:=.agg #[.bool pn,.slice pa pl pc,.bool dn,.slice da dl dc]) (by simp [results,Try.results83,go_sem,e4,e5,e6,e7]) rfl ?_
    rw [← HP.out]
    exact ⟨_,rfl,by unfold FracV; rw [HU.out]; exact hI,set4b sb (by omega) _ _ _ _⟩

theorem FracV.parts {w:World} {v:Value} {q:Rat} (h:FracV w v q):∃ (n1:Bool) (a1:Option Addr) (l1 k1:Nat) (n2:Bool) (a2:Option Addr) (l2 k2:Nat),v = .agg #[.bool n1,.slice a1 l1 k1,.bool n2,.slice a2 l2 k2] ∧ IntV w (.agg #[.bool n1,.slice a1 l1 k1]) q.num ∧ IntV w (.agg #[.bool n2,.slice a2 l2 k2]) (und q):=h
theorem Qz.sm {p q:Rat} (hp:Qz p) (hq:Qz q):Sm p.num ∧ Sm (p.den:Int) ∧ Sm (und p) ∧ Sm (p.num * q.num) ∧ Sm ((p.den:Int) * (q.den:Int)) ∧ Sm (p.num * (q.den:Int)) ∧ Sm ((p.den:Int) * q.num) ∧ Sm (q.num * (p.den:Int)) ∧ Sm (p.num * (q.den:Int) + q.num * (p.den:Int)):=by
 have hu:=len_und hp
 obtain ⟨a1,a2⟩:=hp
 obtain ⟨b1,b2⟩:=hq
 have m1:=len_mul p.num q.num
 have m2:=len_mul (p.den:Int) (q.den:Int)
 have m3:=len_mul p.num (q.den:Int)
 have m4:=len_mul (p.den:Int) q.num
 have m5:=len_mul q.num (p.den:Int)
 have m6:=len_add (p.num * (q.den:Int)) (q.num * (p.den:Int))
 unfold Sm
 refine ⟨?_,?_,?_,?_,?_,?_,?_,?_,?_⟩ <;> omega
def ordQ (p q:Rat):Int:=ordZ (p.num * (q.den:Int)) (q.num * (p.den:Int))
theorem ordQ_eq (p q:Rat):ordQ p q = if p < q then -1 else if q < p then 1 else 0:=by
 unfold ordQ ordZ
 simp only [Rat.lt_iff]
section
variable {w c:World} {x y:Int} {u v:Value}
end

set_option maxRecDepth 100000 in
set_option maxHeartbeats 1600000 in
theorem FMul_any {p q:Rat} {u v:Value} (w:World) (hx:FracV w u p) (hy:FracV w v q) (hp:Qz p) (hq:Qz q):Calls Try.prog 80 #[u,v] w (FracPost w (p * q)):=by
 generalize hP:FracPost w (p * q) = Post
 have HP:=hide hP
 clear hP
 obtain ⟨xn,xa,xl,xk,xm,xb,xi,xj,rfl,hx1,hx2⟩:=FracV.parts hx
 obtain ⟨yn,ya,yl,yk,ym,yb,yi,yj,rfl,hy1,hy2⟩:=FracV.parts hy
 obtain ⟨sx,sd,su,sxx,sdd,sxd,sdx,syd,sad⟩:=Qz.sm hp hq
 obtain ⟨tx,td,tu,-,-,-,-,-,-⟩:=Qz.sm hq hp
 obtain ⟨W,hW⟩:∃ W,(((w.alloc (.cells #[.bool xn,.slice xa xl xk,.bool xm,.slice xb xi xj] 71)).alloc (.cells #[.bool yn,.slice ya yl yk,.bool ym,.slice yb yi yj] 71)).alloc (.cells #[.bool false,.slice none 0 0,.bool false,.slice none 0 0] 71)) = W:=⟨_,rfl⟩
 have bx:Blk W w.heap.size 71 #[.bool xn,.slice xa xl xk,.bool xm,.slice xb xi xj]:=by rw [← hW]; exact ((Blk.new w _ _).alloc _).alloc _
 have by_:Blk W (w.heap.size + 1) 71 #[.bool yn,.slice ya yl yk,.bool ym,.slice yb yi yj]:=by rw [← hW]; exact (Blk.new_at _ _ _ (by simp)).alloc _
 have bR:Blk W (w.heap.size + 1 + 1) 71 #[.bool false,.slice none 0 0,.bool false,.slice none 0 0]:=by rw [← hW]; exact Blk.new_at _ _ _ (by simp)
 have sb:Below w.heap.size w W:=by rw [← hW]; exact (((Below.refl w.heap.size w).alloc (Nat.le_refl _) _).alloc (by simp) _).alloc (by simp; omega) _
 obtain ⟨cx0,cx1,cx2,cx3,-⟩:=bx.c4
 obtain ⟨cy0,cy1,cy2,cy3,-⟩:=by_.c4
 have hK:Kq w 71 (w.heap.size + 1 + 1) W:=⟨sb,by omega,_,_,_,_,_,_,_,_,bR⟩
 have HW:=hide hW
 clear hW bx by_ bR
 go_enter Try.func80,Try.ntmps80
 go_upto_region 1 with (fail)
 rw [HW.out]
 clear HW
 have hK1:=hK.drew
 have dx:w.heap.size ≠ w.heap.size + 1 + 1:=by omega
 have dy:w.heap.size + 1 ≠ w.heap.size + 1 + 1:=by omega
 go_region_held3 (fun w'=>w'.cell? ⟨w.heap.size,0,none⟩ = some (.bool xn) ∧ w'.cell? ⟨w.heap.size,1,none⟩ = some (.slice xa xl xk) ∧ w'.cell? ⟨w.heap.size,2,none⟩ = some (.bool xm) ∧ w'.cell? ⟨w.heap.size,3,none⟩ = some (.slice xb xi xj) ∧ w'.cell? ⟨w.heap.size + 1,0,none⟩ = some (.bool yn) ∧ w'.cell? ⟨w.heap.size + 1,1,none⟩ = some (.slice ya yl yk) ∧ w'.cell? ⟨w.heap.size + 1,2,none⟩ = some (.bool ym) ∧ w'.cell? ⟨w.heap.size + 1,3,none⟩ = some (.slice yb yi yj) ∧ Kq w 71 (w.heap.size + 1 + 1) w')
  (first | with_reducible exact keepL8 (by assumption) hb1 | with_reducible exact keepQ8 dx dx dx dx dy dy dy dy _ _ _ _ (isB_of _) (isS_of _ _ _) (isB_of _) (isS_of _ _ _) (by assumption) | go_keep)
  (first
   | (go_at_call_of 18 (Value.agg #[.bool xn,.slice xa xl xk]); (with_reducible refine (Mul_at hx1 hy1 sx tx (by go_split_ands; exact Kq.bel (by assumption))).mono ?_); rintro e wN ⟨rA,rfl,hA,hb1⟩)
   | (go_at_call_of 63 (Value.agg #[.bool xn,.slice xa xl xk,.bool xm,.slice xb xi xj]); (with_reducible refine (under_at hx (by go_split_ands; exact Kq.bel (by assumption))).mono ?_); rintro e wN ⟨rB,rfl,hB,hb1⟩; replace hA:=hA.below hb1 (Nat.le_refl _))
   | (go_at_call_of 63 (Value.agg #[.bool yn,.slice ya yl yk,.bool ym,.slice yb yi yj]); (with_reducible refine (under_at hy (by go_split_ands; exact Kq.bel (by assumption))).mono ?_); rintro e wN ⟨rC,rfl,hC,hb1⟩; replace hA:=hA.below hb1 (Nat.le_refl _); replace hB:=hB.below hb1 (Nat.le_refl _))
   | (go_at_call_of 18 rC; (with_reducible refine (Mul_any _ hB hC sd td).mono ?_); rintro e wN ⟨rD,rfl,hD,hb1⟩; replace hA:=hA.below hb1 (Nat.le_refl _))
   | (go_at_call_of 83 rD; (with_reducible refine (FMake_any _ hA hD sxx sdd).mono ?_); rintro e wN ⟨rE,rfl,hE,hb1⟩; rw [mul_div] at hE; obtain ⟨rn,ra,rl,rk,rm,rb,ri,rj,rfl,-,-⟩:=FracV.parts hE; obtain ⟨_,_,_,_,_,_,_,_,k0,k1,k2,k3,kf0,kf1,kf2,kf3,hX4⟩:=Kq.at (t:=71) (g:=w.heap.size + 1 + 1) (w:=w) (by go_split_ands; assumption) hb1))
 rename_i hS
 have hKf:=hS.2.2.2.2.2.2.2.2
 have hI:=FrV.st4 hE hX4 (.bool rn) (.slice ra rl rk) (.bool rm) (.slice rb ri rj)
 obtain ⟨e0,e1,e2,e3,-⟩:=(hX4.four (.bool rn) (.slice ra rl rk) (.bool rm) (.slice rb ri rj)).c4
 go_wp2_with fail
 refine bodyPost_ret (v:=Value.agg #[.bool rn,.slice ra rl rk,.bool rm,.slice rb ri rj]) (by simp [results,Try.results80,go_sem,e0,e1,e2,e3]) rfl ?_
 rw [← HP.out]
 exact ⟨_,rfl,hI,hKf.1⟩

set_option maxRecDepth 100000 in
set_option maxHeartbeats 1600000 in
theorem FDiv_any {p q:Rat} {u v:Value} (w:World) (hx:FracV w u p) (hy:FracV w v q) (hp:Qz p) (hq:Qz q):Calls Try.prog 77 #[u,v] w (FracPost w (p / q)):=by
 generalize hP:FracPost w (p / q) = Post
 have HP:=hide hP
 clear hP
 obtain ⟨xn,xa,xl,xk,xm,xb,xi,xj,rfl,hx1,hx2⟩:=FracV.parts hx
 obtain ⟨yn,ya,yl,yk,ym,yb,yi,yj,rfl,hy1,hy2⟩:=FracV.parts hy
 obtain ⟨sx,sd,su,sxx,sdd,sxd,sdx,syd,sad⟩:=Qz.sm hp hq
 obtain ⟨tx,td,tu,-,-,-,-,-,-⟩:=Qz.sm hq hp
 obtain ⟨W,hW⟩:∃ W,(((w.alloc (.cells #[.bool xn,.slice xa xl xk,.bool xm,.slice xb xi xj] 71)).alloc (.cells #[.bool yn,.slice ya yl yk,.bool ym,.slice yb yi yj] 71)).alloc (.cells #[.bool false,.slice none 0 0,.bool false,.slice none 0 0] 71)) = W:=⟨_,rfl⟩
 have bx:Blk W w.heap.size 71 #[.bool xn,.slice xa xl xk,.bool xm,.slice xb xi xj]:=by rw [← hW]; exact ((Blk.new w _ _).alloc _).alloc _
 have by_:Blk W (w.heap.size + 1) 71 #[.bool yn,.slice ya yl yk,.bool ym,.slice yb yi yj]:=by rw [← hW]; exact (Blk.new_at _ _ _ (by simp)).alloc _
 have bR:Blk W (w.heap.size + 1 + 1) 71 #[.bool false,.slice none 0 0,.bool false,.slice none 0 0]:=by rw [← hW]; exact Blk.new_at _ _ _ (by simp)
 have sb:Below w.heap.size w W:=by rw [← hW]; exact (((Below.refl w.heap.size w).alloc (Nat.le_refl _) _).alloc (by simp) _).alloc (by simp; omega) _
 obtain ⟨cx0,cx1,cx2,cx3,-⟩:=bx.c4
 obtain ⟨cy0,cy1,cy2,cy3,-⟩:=by_.c4
 have hK:Kq w 71 (w.heap.size + 1 + 1) W:=⟨sb,by omega,_,_,_,_,_,_,_,_,bR⟩
 have HW:=hide hW
 clear hW bx by_ bR
 go_enter Try.func77,Try.ntmps77
 go_upto_region 1 with (fail)
 rw [HW.out]
 clear HW
 have hK1:=hK.drew
 have dx:w.heap.size ≠ w.heap.size + 1 + 1:=by omega
 have dy:w.heap.size + 1 ≠ w.heap.size + 1 + 1:=by omega
 go_region_held3 (fun w'=>w'.cell? ⟨w.heap.size,0,none⟩ = some (.bool xn) ∧ w'.cell? ⟨w.heap.size,1,none⟩ = some (.slice xa xl xk) ∧ w'.cell? ⟨w.heap.size,2,none⟩ = some (.bool xm) ∧ w'.cell? ⟨w.heap.size,3,none⟩ = some (.slice xb xi xj) ∧ w'.cell? ⟨w.heap.size + 1,0,none⟩ = some (.bool yn) ∧ w'.cell? ⟨w.heap.size + 1,1,none⟩ = some (.slice ya yl yk) ∧ w'.cell? ⟨w.heap.size + 1,2,none⟩ = some (.bool ym) ∧ w'.cell? ⟨w.heap.size + 1,3,none⟩ = some (.slice yb yi yj) ∧ Kq w 71 (w.heap.size + 1 + 1) w')
  (first | with_reducible exact keepL8 (by assumption) hb1 | with_reducible exact keepQ8 dx dx dx dx dy dy dy dy _ _ _ _ (isB_of _) (isS_of _ _ _) (isB_of _) (isS_of _ _ _) (by assumption) | go_keep)
  (first
   | (go_at_call_of 63 (Value.agg #[.bool yn,.slice ya yl yk,.bool ym,.slice yb yi yj]); (with_reducible refine (under_at hy (by go_split_ands; exact Kq.bel (by assumption))).mono ?_); rintro e wN ⟨rA,rfl,hA,hb1⟩)
   | (go_at_call_of 18 rA; (with_reducible refine (Mul_any _ (hx1.below (by go_split_ands; exact Kq.bel (by assumption)) (Nat.le_refl _)) hA sx td).mono ?_); rintro e wN ⟨rB,rfl,hB,hb1⟩)
   | (go_at_call_of 63 (Value.agg #[.bool xn,.slice xa xl xk,.bool xm,.slice xb xi xj]); (with_reducible refine (under_at hx (by go_split_ands; exact Kq.bel (by assumption))).mono ?_); rintro e wN ⟨rC,rfl,hC,hb1⟩; replace hB:=hB.below hb1 (Nat.le_refl _))
   | (go_at_call_of 18 rC; (with_reducible refine (Mul_any _ hC (hy1.below (by go_split_ands; exact Kq.bel (by assumption)) (Nat.le_refl _)) sd tx).mono ?_); rintro e wN ⟨rD,rfl,hD,hb1⟩; replace hB:=hB.below hb1 (Nat.le_refl _))
   | (go_at_call_of 83 rD; (with_reducible refine (FMake_any _ hB hD sxd sdx).mono ?_); rintro e wN ⟨rE,rfl,hE,hb1⟩; rw [div_div] at hE; obtain ⟨rn,ra,rl,rk,rm,rb,ri,rj,rfl,-,-⟩:=FracV.parts hE; obtain ⟨_,_,_,_,_,_,_,_,k0,k1,k2,k3,kf0,kf1,kf2,kf3,hX4⟩:=Kq.at (t:=71) (g:=w.heap.size + 1 + 1) (w:=w) (by go_split_ands; assumption) hb1))
 rename_i hS
 have hKf:=hS.2.2.2.2.2.2.2.2
 have hI:=FrV.st4 hE hX4 (.bool rn) (.slice ra rl rk) (.bool rm) (.slice rb ri rj)
 obtain ⟨e0,e1,e2,e3,-⟩:=(hX4.four (.bool rn) (.slice ra rl rk) (.bool rm) (.slice rb ri rj)).c4
 go_wp2_with fail
 refine bodyPost_ret (v:=Value.agg #[.bool rn,.slice ra rl rk,.bool rm,.slice rb ri rj]) (by simp [results,Try.results77,go_sem,e0,e1,e2,e3]) rfl ?_
 rw [← HP.out]
 exact ⟨_,rfl,hI,hKf.1⟩

set_option maxRecDepth 100000 in
set_option maxHeartbeats 1600000 in
theorem FCmp_any {p q:Rat} {u v:Value} (w:World) (hx:FracV w u p) (hy:FracV w v q) (hp:Qz p) (hq:Qz q):Calls Try.prog 61 #[u,v] w fun e w'=>e = .returned (.int .i64 (ordQ p q)) ∧ Below w.heap.size w w':=by
 generalize hr:ordQ p q = r
 have HR:Hid (ordZ (p.num * (q.den:Int)) (q.num * (p.den:Int)) = r):=hide hr
 clear hr
 obtain ⟨xn,xa,xl,xk,xm,xb,xi,xj,rfl,hx1,hx2⟩:=FracV.parts hx
 obtain ⟨yn,ya,yl,yk,ym,yb,yi,yj,rfl,hy1,hy2⟩:=FracV.parts hy
 obtain ⟨sx,sd,su,sxx,sdd,sxd,sdx,syd,sad⟩:=Qz.sm hp hq
 obtain ⟨tx,td,tu,-,-,-,-,-,-⟩:=Qz.sm hq hp
 obtain ⟨W,hW⟩:∃ W,((w.alloc (.cells #[.bool xn,.slice xa xl xk,.bool xm,.slice xb xi xj] 71)).alloc (.cells #[.bool yn,.slice ya yl yk,.bool ym,.slice yb yi yj] 71)) = W:=⟨_,rfl⟩
 have bx:Blk W w.heap.size 71 #[.bool xn,.slice xa xl xk,.bool xm,.slice xb xi xj]:=by rw [← hW]; exact (Blk.new w _ _).alloc _
 have by_:Blk W (w.heap.size + 1) 71 #[.bool yn,.slice ya yl yk,.bool ym,.slice yb yi yj]:=by rw [← hW]; exact Blk.new_at _ _ _ (by simp)
 have sb:Below w.heap.size w W:=by rw [← hW]; exact ((Below.refl w.heap.size w).alloc (Nat.le_refl _) _).alloc (by simp) _
 obtain ⟨cx0,cx1,cx2,cx3,-⟩:=bx.c4
 obtain ⟨cy0,cy1,cy2,cy3,-⟩:=by_.c4
 have HW:=hide hW
 clear hW bx by_
 go_enter Try.func61,Try.ntmps61
 go_upto_region 1 with (fail)
 rw [HW.out]
 clear HW
 have sb1:=sb.drew
 go_region_held3 (fun w'=>w'.cell? ⟨w.heap.size,0,none⟩ = some (.bool xn) ∧ w'.cell? ⟨w.heap.size,1,none⟩ = some (.slice xa xl xk) ∧ w'.cell? ⟨w.heap.size,2,none⟩ = some (.bool xm) ∧ w'.cell? ⟨w.heap.size,3,none⟩ = some (.slice xb xi xj) ∧ w'.cell? ⟨w.heap.size + 1,0,none⟩ = some (.bool yn) ∧ w'.cell? ⟨w.heap.size + 1,1,none⟩ = some (.slice ya yl yk) ∧ w'.cell? ⟨w.heap.size + 1,2,none⟩ = some (.bool ym) ∧ w'.cell? ⟨w.heap.size + 1,3,none⟩ = some (.slice yb yi yj) ∧ Below w.heap.size w w')
  (first | with_reducible exact keepZ8 (by assumption) hb1 | go_keep)
  (first
   | (go_at_call_of 63 (Value.agg #[.bool yn,.slice ya yl yk,.bool ym,.slice yb yi yj]); (with_reducible refine (under_at hy (by go_split_ands; assumption)).mono ?_); rintro e wN ⟨rA,rfl,hA,hb1⟩)
   | (go_at_call_of 18 rA; (with_reducible refine (Mul_any _ (hx1.below (by go_split_ands; assumption) (Nat.le_refl _)) hA sx td).mono ?_); rintro e wN ⟨rB,rfl,hB,hb1⟩)
   | (go_at_call_of 63 (Value.agg #[.bool xn,.slice xa xl xk,.bool xm,.slice xb xi xj]); (with_reducible refine (under_at hx (by go_split_ands; assumption)).mono ?_); rintro e wN ⟨rC,rfl,hC,hb1⟩; replace hB:=hB.below hb1 (Nat.le_refl _))
   | (go_at_call_of 18 rC; (with_reducible refine (Mul_any _ (hy1.below (by go_split_ands; assumption) (Nat.le_refl _)) hC tx sd).mono ?_); rintro e wN ⟨rD,rfl,hD,hb1⟩; replace hB:=hB.below hb1 (Nat.le_refl _))
   | (go_at_call_of 81 rD; (with_reducible refine (Cmp_at hB hD sxd syd (Below.refl _ _) HR.out).mono ?_); rintro e wN ⟨rfl,hb1⟩))
 rename_i hS
 have hB:=hS.2.2.2.2.2.2.2.2
 go_wp2_with fail
 go_ret
 exact ⟨rfl,hB⟩

set_option maxRecDepth 100000 in
set_option maxHeartbeats 1600000 in
theorem FNeg_any {p:Rat} {u:Value} (w:World) (hx:FracV w u p) (hp:Qz p):Calls Try.prog 76 #[u] w (FracPost w (-p)):=by
 generalize hP:FracPost w (-p) = Post
 have HP:=hide hP
 clear hP
 obtain ⟨sx,sd,su,-,-,-,-,-,-⟩:=Qz.sm hp hp
 obtain ⟨xn,xa,xl,xk,xm,xb,xi,xj,rfl,hx1,hx2⟩:=FracV.parts hx
 obtain ⟨W,hW⟩:∃ W,((w.alloc (.cells #[.bool xn,.slice xa xl xk,.bool xm,.slice xb xi xj] 71)).alloc (.cells #[.bool false,.slice none 0 0,.bool false,.slice none 0 0] 71)) = W:=⟨_,rfl⟩
 have bx:Blk W w.heap.size 71 #[.bool xn,.slice xa xl xk,.bool xm,.slice xb xi xj]:=by rw [← hW]; exact (Blk.new w _ _).alloc _
 have bR:Blk W (w.heap.size + 1) 71 #[.bool false,.slice none 0 0,.bool false,.slice none 0 0]:=by rw [← hW]; exact Blk.new_at _ _ _ (by simp)
 have sb:Below w.heap.size w W:=by rw [← hW]; exact ((Below.refl w.heap.size w).alloc (Nat.le_refl _) _).alloc (by simp) _
 obtain ⟨cx0,cx1,cx2,cx3,-⟩:=bx.c4
 have hK:Kq w 71 (w.heap.size + 1) W:=⟨sb,by omega,_,_,_,_,_,_,_,_,bR⟩
 have HW:=hide hW
 clear hW bx bR
 go_enter Try.func76,Try.ntmps76
 go_upto_region 1 with (fail)
 rw [HW.out]
 clear HW
 have hK1:=hK.drew
 have dx:w.heap.size ≠ w.heap.size + 1:=by omega
 go_region_held3 (fun w'=>w'.cell? ⟨w.heap.size,0,none⟩ = some (.bool xn) ∧ w'.cell? ⟨w.heap.size,1,none⟩ = some (.slice xa xl xk) ∧ w'.cell? ⟨w.heap.size,2,none⟩ = some (.bool xm) ∧ w'.cell? ⟨w.heap.size,3,none⟩ = some (.slice xb xi xj) ∧ Kq w 71 (w.heap.size + 1) w')
  (first | with_reducible exact keepL4 (by assumption) hb1 | with_reducible exact keepQ4 dx dx dx dx _ _ _ _ (isB_of _) (isS_of _ _ _) (isB_of _) (isS_of _ _ _) (by assumption) | go_keep)
  (first
   | (go_at_call_of 22 (Value.agg #[.bool xn,.slice xa xl xk]); (with_reducible refine (Neg_any _ (hx1.below (by go_split_ands; exact Kq.bel (by assumption)) (Nat.le_refl _)) sx).mono ?_); rintro e wN ⟨rA,rfl,hA,hb1⟩; obtain ⟨rn,ra,rl,rk,rfl⟩:=hA.parts)
   | (go_at_call_of 68 (Value.agg #[.bool xm,.slice xb xi xj]); (with_reducible refine (fcopied_any _ (hx2.below (by go_split_ands; exact Kq.bel (by assumption)) (Nat.le_refl _)) su).mono ?_); rintro e wN ⟨rB,rfl,hB,hb1⟩; replace hA:=hA.below hb1 (Nat.le_refl _); obtain ⟨rm,rb,ri,rj,rfl⟩:=hB.parts; have hE:FracV _ _ (-p):=(by unfold FracV; rw [Rat.neg_num,und_neg]; exact FrV.mk hA hB); obtain ⟨_,_,_,_,_,_,_,_,k0,k1,k2,k3,kf0,kf1,kf2,kf3,hX4⟩:=Kq.at (t:=71) (g:=w.heap.size + 1) (w:=w) (by go_split_ands; assumption) hb1))
 rename_i hS
 have hKf:=hS.2.2.2.2
 have hI:=FrV.st4 hE hX4 (.bool rn) (.slice ra rl rk) (.bool rm) (.slice rb ri rj)
 obtain ⟨e0,e1,e2,e3,-⟩:=(hX4.four (.bool rn) (.slice ra rl rk) (.bool rm) (.slice rb ri rj)).c4
 go_wp2_with fail
 refine bodyPost_ret (v:=Value.agg #[.bool rn,.slice ra rl rk,.bool rm,.slice rb ri rj]) (by simp [results,Try.results76,go_sem,e0,e1,e2,e3]) rfl ?_
 rw [← HP.out]
 exact ⟨_,rfl,hI,hKf.1⟩


set_option maxRecDepth 100000 in
set_option maxHeartbeats 6400000 in
theorem FAdd_any {p q:Rat} {u v:Value} (w:World) (hx:FracV w u p) (hy:FracV w v q) (hp:Qz p) (hq:Qz q):Calls Try.prog 79 #[u,v] w (FracPost w (p + q)):=by
 generalize hP:FracPost w (p + q) = Post
 have HP:=hide hP
 clear hP
 obtain ⟨xn,xa,xl,xk,xm,xb,xi,xj,rfl,hx1,hx2⟩:=FracV.parts hx
 obtain ⟨yn,ya,yl,yk,ym,yb,yi,yj,rfl,hy1,hy2⟩:=FracV.parts hy
 obtain ⟨sx,sd,su,sxx,sdd,sxd,sdx,syd,sad⟩:=Qz.sm hp hq
 obtain ⟨tx,td,tu,-,-,-,-,-,-⟩:=Qz.sm hq hp
 obtain ⟨W,hW⟩:∃ W,(((w.alloc (.cells #[.bool xn,.slice xa xl xk,.bool xm,.slice xb xi xj] 71)).alloc (.cells #[.bool yn,.slice ya yl yk,.bool ym,.slice yb yi yj] 71)).alloc (.cells #[.bool false,.slice none 0 0,.bool false,.slice none 0 0] 71)) = W:=⟨_,rfl⟩
 have bx:Blk W w.heap.size 71 #[.bool xn,.slice xa xl xk,.bool xm,.slice xb xi xj]:=by rw [← hW]; exact ((Blk.new w _ _).alloc _).alloc _
 have by_:Blk W (w.heap.size + 1) 71 #[.bool yn,.slice ya yl yk,.bool ym,.slice yb yi yj]:=by rw [← hW]; exact (Blk.new_at _ _ _ (by simp)).alloc _
 have bR:Blk W (w.heap.size + 1 + 1) 71 #[.bool false,.slice none 0 0,.bool false,.slice none 0 0]:=by rw [← hW]; exact Blk.new_at _ _ _ (by simp)
 have sb:Below w.heap.size w W:=by rw [← hW]; exact (((Below.refl w.heap.size w).alloc (Nat.le_refl _) _).alloc (by simp) _).alloc (by simp; omega) _
 obtain ⟨cx0,cx1,cx2,cx3,-⟩:=bx.c4
 obtain ⟨cy0,cy1,cy2,cy3,-⟩:=by_.c4
 have hK:Kq w 71 (w.heap.size + 1 + 1) W:=⟨sb,by omega,_,_,_,_,_,_,_,_,bR⟩
 have HW:=hide hW
 clear hW bx by_ bR
 go_enter Try.func79,Try.ntmps79
 go_upto_region 1 with (fail)
 rw [HW.out]
 clear HW
 have hS1:W.cell? ⟨w.heap.size,0,none⟩ = some (.bool xn) ∧ W.cell? ⟨w.heap.size,1,none⟩ = some (.slice xa xl xk) ∧ W.cell? ⟨w.heap.size,2,none⟩ = some (.bool xm) ∧ W.cell? ⟨w.heap.size,3,none⟩ = some (.slice xb xi xj) ∧ W.cell? ⟨w.heap.size + 1,0,none⟩ = some (.bool yn) ∧ W.cell? ⟨w.heap.size + 1,1,none⟩ = some (.slice ya yl yk) ∧ W.cell? ⟨w.heap.size + 1,2,none⟩ = some (.bool ym) ∧ W.cell? ⟨w.heap.size + 1,3,none⟩ = some (.slice yb yi yj) ∧ Kq w 71 (w.heap.size + 1 + 1) W:=⟨cx0,cx1,cx2,cx3,cy0,cy1,cy2,cy3,hK⟩
 have hWs:=hS1.2.2.2.2.2.2.2.2.bel.size
 have hWR:w.heap.size + 1 + 1 < W.heap.size:=by obtain ⟨_,_,_,_,_,_,_,_,h⟩:=hK.blk; exact h.lt
 go_cut [5,6] from 7 to 10 (fun v5 v6 wc=>∃ g5 g6 sn sa sl sk tn ta tl tk,v5 = .pointer (some ⟨g5,0,none⟩) ∧ v6 = .pointer (some ⟨g6,0,none⟩) ∧ w.heap.size + 1 + 1 < g5 ∧ w.heap.size + 1 + 1 < g6 ∧ Blk wc g5 38 #[.bool sn,.slice sa sl sk] ∧ Blk wc g6 38 #[.bool tn,.slice ta tl tk] ∧ IntV wc (.agg #[.bool sn,.slice sa sl sk]) (p.den:Int) ∧ IntV wc (.agg #[.bool tn,.slice ta tl tk]) (q.den:Int) ∧ wc.cell? ⟨w.heap.size,0,none⟩ = some (.bool xn) ∧ wc.cell? ⟨w.heap.size,1,none⟩ = some (.slice xa xl xk) ∧ wc.cell? ⟨w.heap.size,2,none⟩ = some (.bool xm) ∧ wc.cell? ⟨w.heap.size,3,none⟩ = some (.slice xb xi xj) ∧ wc.cell? ⟨w.heap.size + 1,0,none⟩ = some (.bool yn) ∧ wc.cell? ⟨w.heap.size + 1,1,none⟩ = some (.slice ya yl yk) ∧ wc.cell? ⟨w.heap.size + 1,2,none⟩ = some (.bool ym) ∧ wc.cell? ⟨w.heap.size + 1,3,none⟩ = some (.slice yb yi yj) ∧ Kq w 71 (w.heap.size + 1 + 1) wc)
 case first=>
  go_region_held3 (fun w'=>w'.cell? ⟨w.heap.size,0,none⟩ = some (.bool xn) ∧ w'.cell? ⟨w.heap.size,1,none⟩ = some (.slice xa xl xk) ∧ w'.cell? ⟨w.heap.size,2,none⟩ = some (.bool xm) ∧ w'.cell? ⟨w.heap.size,3,none⟩ = some (.slice xb xi xj) ∧ w'.cell? ⟨w.heap.size + 1,0,none⟩ = some (.bool yn) ∧ w'.cell? ⟨w.heap.size + 1,1,none⟩ = some (.slice ya yl yk) ∧ w'.cell? ⟨w.heap.size + 1,2,none⟩ = some (.bool ym) ∧ w'.cell? ⟨w.heap.size + 1,3,none⟩ = some (.slice yb yi yj) ∧ Kq w 71 (w.heap.size + 1 + 1) w')
   (exact keepL8 hS1 (by repeat (first | with_reducible exact Below.refl _ _ | with_reducible refine bl_drew ?_ | with_reducible refine bl_alloc ?_ _ | with_reducible refine bl_set ?_ (by omega) _ _ | with_reducible refine bl_call ?_ (by with_reducible assumption))))
   (first
    | (go_at_call_of 63 (Value.agg #[.bool xn,.slice xa xl xk,.bool xm,.slice xb xi xj]); (with_reducible refine (under_at hx (by go_split_ands; exact Kq.bel (by assumption))).mono ?_); rintro e wN ⟨r,rfl,hr,hb1⟩; obtain ⟨sn,sa,sl,sk,rfl⟩:=hr.parts; have hs1:=hb1.size; (try simp only [World.size_drew] at hs1); (try simp only [World.size_alloc] at hs1); (first | with_reducible replace hA:=Blk.later hb1 hA | with_reducible replace hA:=Blk.later hb1 (Blk.alloc hA _) | with_reducible replace hA:=Blk.later hb1 (Blk.alloc (Blk.alloc hA _) _) | skip); (first | with_reducible replace hB:=Blk.later hb1 hB | with_reducible replace hB:=Blk.later hb1 (Blk.alloc hB _) | with_reducible replace hB:=Blk.later hb1 (Blk.alloc (Blk.alloc hB _) _) | skip); (first | (have _t:=hA; first | (have hB:=Blk.later hb1 (Blk.new _ _ _)) | skip) | (have hA:=Blk.later hb1 (Blk.alloc (Blk.new _ _ _) _); have hB:=Blk.later hb1 (Blk.new _ _ _)) | (have hA:=Blk.later hb1 (Blk.drew (Blk.alloc (Blk.new _ _ _) _)); have hB:=Blk.later hb1 (Blk.drew (Blk.new _ _ _))) | (have hA:=Blk.later hb1 (Blk.new _ _ _)) | (have hA:=Blk.later hb1 (Blk.drew (Blk.new _ _ _))) | skip); (try (try simp only [World.size_alloc] at hA); obtain ⟨khA0,khA1,khAf⟩:=hA.c2; have khA2:=khAf 0; have khA3:=khAf 1; have khAl:=hA.lt; clear khAf); (try (try simp only [World.size_alloc] at hB); obtain ⟨khB0,khB1,khBf⟩:=hB.c2; have khB2:=khBf 0; have khB3:=khBf 1; have khBl:=hB.lt; clear khBf))
    | (go_at_call_of 63 (Value.agg #[.bool yn,.slice ya yl yk,.bool ym,.slice yb yi yj]); (with_reducible refine (under_at hy (by go_split_ands; exact Kq.bel (by assumption))).mono ?_); rintro e wN ⟨r',rfl,hr',hb1⟩; obtain ⟨tn,ta,tl,tk,rfl⟩:=hr'.parts; have hs1:=hb1.size; (try simp only [World.size_drew] at hs1); (try simp only [World.size_alloc] at hs1); (first | with_reducible replace hA:=Blk.later hb1 hA | with_reducible replace hA:=Blk.later hb1 (Blk.alloc hA _) | with_reducible replace hA:=Blk.later hb1 (Blk.alloc (Blk.alloc hA _) _) | skip); (first | with_reducible replace hB:=Blk.later hb1 hB | with_reducible replace hB:=Blk.later hb1 (Blk.alloc hB _) | with_reducible replace hB:=Blk.later hb1 (Blk.alloc (Blk.alloc hB _) _) | skip); (first | (have _t:=hA; first | (have hB:=Blk.later hb1 (Blk.new _ _ _)) | skip) | (have hA:=Blk.later hb1 (Blk.alloc (Blk.new _ _ _) _); have hB:=Blk.later hb1 (Blk.new _ _ _)) | (have hA:=Blk.later hb1 (Blk.drew (Blk.alloc (Blk.new _ _ _) _)); have hB:=Blk.later hb1 (Blk.drew (Blk.new _ _ _))) | (have hA:=Blk.later hb1 (Blk.new _ _ _)) | (have hA:=Blk.later hb1 (Blk.drew (Blk.new _ _ _))) | skip); (try (try simp only [World.size_alloc] at hA); obtain ⟨khA0,khA1,khAf⟩:=hA.c2; have khA2:=khAf 0; have khA3:=khAf 1; have khAl:=hA.lt; clear khAf); (try (try simp only [World.size_alloc] at hB); obtain ⟨khB0,khB1,khBf⟩:=hB.c2; have khB2:=khBf 0; have khB3:=khBf 1; have khBl:=hB.lt; clear khBf)))
  all_goals
   go_wp2_with fail
   go_meet
   refine ⟨_,_,sn,sa,sl,sk,tn,ta,tl,tk,rfl,rfl,?r6,?r7,?r1,?r2,?r3,?r4,?r5⟩
   case r6=>omega
   case r7=>omega
   case r1=>repeat (first | with_reducible refine Blk.later (by with_reducible assumption) ?_ | with_reducible refine Blk.drew ?_ | with_reducible exact Blk.new _ _ _ | with_reducible exact Blk.new_at _ _ _ (World.size_alloc _ _).symm | with_reducible exact Blk.new_at _ _ _ ((World.size_setCell _ _ _).trans (World.size_setCell _ _ _)).symm | with_reducible refine Blk.alloc ?_ _ | with_reducible refine Blk.two (a:=.bool false) (b:=.slice none 0 0) ?_ _ _ | with_reducible refine Blk.far ?_ (by simp only [ne_eq]; omega) _)
   case r2=>repeat (first | with_reducible refine Blk.later (by with_reducible assumption) ?_ | with_reducible refine Blk.drew ?_ | with_reducible exact Blk.new _ _ _ | with_reducible exact Blk.new_at _ _ _ (World.size_alloc _ _).symm | with_reducible exact Blk.new_at _ _ _ ((World.size_setCell _ _ _).trans (World.size_setCell _ _ _)).symm | with_reducible refine Blk.alloc ?_ _ | with_reducible refine Blk.two (a:=.bool false) (b:=.slice none 0 0) ?_ _ _ | with_reducible refine Blk.far ?_ (by simp only [ne_eq]; omega) _)
   case r3=>((repeat (first | with_reducible assumption | with_reducible refine IntV.drewd ?_ | with_reducible refine IntV.allocd ?_ _ | with_reducible refine IntV.store ?_ (n:=false) (b:=none) (l:=0) (m:=0) ?_ _ _ | with_reducible refine IntV.later (by with_reducible assumption) ?_)); all_goals repeat (first | with_reducible refine Blk.later (by with_reducible assumption) ?_ | with_reducible refine Blk.drew ?_ | with_reducible exact Blk.new _ _ _ | with_reducible exact Blk.new_at _ _ _ (World.size_alloc _ _).symm | with_reducible exact Blk.new_at _ _ _ ((World.size_setCell _ _ _).trans (World.size_setCell _ _ _)).symm | with_reducible refine Blk.alloc ?_ _ | with_reducible refine Blk.two (a:=.bool false) (b:=.slice none 0 0) ?_ _ _ | with_reducible refine Blk.far ?_ (by simp only [ne_eq]; omega) _))
   case r4=>((repeat (first | with_reducible assumption | with_reducible refine IntV.drewd ?_ | with_reducible refine IntV.allocd ?_ _ | with_reducible refine IntV.store ?_ (n:=false) (b:=none) (l:=0) (m:=0) ?_ _ _ | with_reducible refine IntV.later (by with_reducible assumption) ?_)); all_goals repeat (first | with_reducible refine Blk.later (by with_reducible assumption) ?_ | with_reducible refine Blk.drew ?_ | with_reducible exact Blk.new _ _ _ | with_reducible exact Blk.new_at _ _ _ (World.size_alloc _ _).symm | with_reducible exact Blk.new_at _ _ _ ((World.size_setCell _ _ _).trans (World.size_setCell _ _ _)).symm | with_reducible refine Blk.alloc ?_ _ | with_reducible refine Blk.two (a:=.bool false) (b:=.slice none 0 0) ?_ _ _ | with_reducible refine Blk.far ?_ (by simp only [ne_eq]; omega) _))
   case r5=>exact keepL8 hS1 (by repeat (first | with_reducible exact Below.refl _ _ | with_reducible refine bl_drew ?_ | with_reducible refine bl_alloc ?_ _ | with_reducible refine bl_set ?_ (by omega) _ _ | with_reducible refine bl_call ?_ (by with_reducible assumption)))
 case rest=>
  obtain ⟨g5,g6,sn,sa,sl,sk,tn,ta,tl,tk,rfl,rfl,-,-,hBa,hBb,ha,hb,hS⟩:=hcut
  clear hS1 cx0 cx1 cx2 cx3 cy0 cy1 cy2 cy3 hK hWs hWR sb hx hy
  rename_i wc
  obtain ⟨cx0,cx1,cx2,cx3,cy0,cy1,cy2,cy3,hK⟩:=hS
  obtain ⟨s0,s1,-⟩:=hBa.c2
  obtain ⟨t0,t1,-⟩:=hBb.c2
  have n5:g5 ≠ w.heap.size + 1 + 1:=by obtain ⟨_,_,_,_,_,_,_,_,h⟩:=hK.blk; exact hBa.ne_ h (by decide)
  have n6:g6 ≠ w.heap.size + 1 + 1:=by obtain ⟨_,_,_,_,_,_,_,_,h⟩:=hK.blk; exact hBb.ne_ h (by decide)
  have hK1:=hK.drew
  have hx2w:=hx1.below hK.bel (Nat.le_refl _)
  have hy2w:=hy1.below hK.bel (Nat.le_refl _)
  have dx:w.heap.size ≠ w.heap.size + 1 + 1:=by omega
  have dy:w.heap.size + 1 ≠ w.heap.size + 1 + 1:=by omega
  go_upto_region 2 with (fail)
  replace ha:=ha.drewd
  replace hb:=hb.drewd
  go_region_held3 (fun w'=>w'.cell? ⟨w.heap.size,0,none⟩ = some (.bool xn) ∧ w'.cell? ⟨w.heap.size,1,none⟩ = some (.slice xa xl xk) ∧ w'.cell? ⟨w.heap.size,2,none⟩ = some (.bool xm) ∧ w'.cell? ⟨w.heap.size,3,none⟩ = some (.slice xb xi xj) ∧ w'.cell? ⟨w.heap.size + 1,0,none⟩ = some (.bool yn) ∧ w'.cell? ⟨w.heap.size + 1,1,none⟩ = some (.slice ya yl yk) ∧ w'.cell? ⟨w.heap.size + 1,2,none⟩ = some (.bool ym) ∧ w'.cell? ⟨w.heap.size + 1,3,none⟩ = some (.slice yb yi yj) ∧ w'.cell? ⟨g5,0,none⟩ = some (.bool sn) ∧ w'.cell? ⟨g5,1,none⟩ = some (.slice sa sl sk) ∧ w'.cell? ⟨g6,0,none⟩ = some (.bool tn) ∧ w'.cell? ⟨g6,1,none⟩ = some (.slice ta tl tk) ∧ Kq w 71 (w.heap.size + 1 + 1) w')
   (first | with_reducible exact keepL12 (by assumption) hb1 | with_reducible exact keepQ12 dx dx dx dx dy dy dy dy n5 n5 n6 n6 _ _ _ _ (isB_of _) (isS_of _ _ _) (isB_of _) (isS_of _ _ _) (by assumption) | go_keep)
   (first
    | (go_at_call_of 18 (Value.agg #[.bool xn,.slice xa xl xk]); (with_reducible refine (Mul_any _ (hx1.below (by go_split_ands; exact Kq.bel (by assumption)) (Nat.le_refl _)) hb sx td).mono ?_); rintro e wN ⟨rA,rfl,hA,hb1⟩; replace ha:=ha.below hb1 (Nat.le_refl _); replace hb:=hb.below hb1 (Nat.le_refl _))
    | (go_at_call_of 18 (Value.agg #[.bool yn,.slice ya yl yk]); (with_reducible refine (Mul_any _ (hy1.below (by go_split_ands; exact Kq.bel (by assumption)) (Nat.le_refl _)) ha tx sd).mono ?_); rintro e wN ⟨rB,rfl,hB,hb1⟩; replace ha:=ha.below hb1 (Nat.le_refl _); replace hb:=hb.below hb1 (Nat.le_refl _); replace hA:=hA.below hb1 (Nat.le_refl _))
    | (go_at_call_of 17 rB; (with_reducible refine (Add_any _ hA hB sxd syd).mono ?_); rintro e wN ⟨rC,rfl,hC,hb1⟩; replace ha:=ha.below hb1 (Nat.le_refl _); replace hb:=hb.below hb1 (Nat.le_refl _))
    | (go_at_call_of 18 (Value.agg #[.bool sn,.slice sa sl sk]); (with_reducible refine (Mul_any _ ha hb sd td).mono ?_); rintro e wN ⟨rD,rfl,hD,hb1⟩; replace hC:=hC.below hb1 (Nat.le_refl _))
    | (go_at_call_of 83 rD; (with_reducible refine (FMake_any _ hC hD sad sdd).mono ?_); rintro e wN ⟨rE,rfl,hE,hb1⟩; rw [add_div] at hE; obtain ⟨rn,ra,rl,rk,rm,rb,ri,rj,rfl,-,-⟩:=FracV.parts hE; obtain ⟨_,_,_,_,_,_,_,_,k0,k1,k2,k3,kf0,kf1,kf2,kf3,hX4⟩:=Kq.at (t:=71) (g:=w.heap.size + 1 + 1) (w:=w) (by go_split_ands; assumption) hb1))
  rename_i hS
  have hKf:=hS.2.2.2.2.2.2.2.2.2.2.2.2
  have hI:=FrV.st4 hE hX4 (.bool rn) (.slice ra rl rk) (.bool rm) (.slice rb ri rj)
  obtain ⟨e0,e1,e2,e3,-⟩:=(hX4.four (.bool rn) (.slice ra rl rk) (.bool rm) (.slice rb ri rj)).c4
  go_wp2_with fail
  refine bodyPost_ret (v:=Value.agg #[.bool rn,.slice ra rl rk,.bool rm,.slice rb ri rj]) (by simp [results,Try.results79,go_sem,e0,e1,e2,e3]) rfl ?_
  rw [← HP.out]
  exact ⟨_,rfl,hI,hKf.1⟩


def FloorPost (w:World) (q:Rat) (e:Ending) (w':World):Prop:=∃ r,e = .returned (.tuple #[r,.bool (decide (q.den = 1))]) ∧ IntV w' r q.floor ∧ Below w.heap.size w w'
theorem rest_zero (q:Rat):q.num % (q.den:Int) = 0 ↔ q.den = 1:=by
 constructor
 ·intro h
  have h1:(q.den:Int) ∣ q.num:=Int.dvd_of_emod_eq_zero h
  have h2:q.den ∣ q.num.natAbs:=Int.ofNat_dvd_left.1 h1
  have h3:=q.reduced
  have h4:Nat.gcd q.num.natAbs q.den = q.den:=Nat.gcd_eq_right h2
  rw [← h4]; exact h3
 ·intro h
  rw [h]; simp
theorem len_eq_zero {z:Int}:len z = 0 ↔ z = 0:=by
 constructor
 ·intro h
  have:=(dg_eq_nil BB2).1 (List.length_eq_zero_iff.1 h)
  omega
 ·rintro rfl; rfl
set_option maxRecDepth 100000 in
set_option maxHeartbeats 6400000 in
theorem FFloor_any {p:Rat} {u:Value} (w:World) (hx:FracV w u p) (hp:Qz p):Calls Try.prog 33 #[u] w (FloorPost w p):=by
 generalize hP:FloorPost w p = Post
 have HP:=hide hP
 clear hP
 obtain ⟨sx,sd,su,-,-,-,-,-,-⟩:=Qz.sm hp hp
 have HF:Hid (p.num / (p.den:Int) = p.floor):=hide (by rw [Rat.floor_def])
 have HZ:Hid (decide (len (p.num % (p.den:Int)) = 0) = decide (p.den = 1)):=hide (by rw [decide_eq_decide,len_eq_zero,rest_zero])
 have hd0:¬ (p.den:Int) = 0:=by have:=p.den_nz; omega
 obtain ⟨xn,xa,xl,xk,xm,xb,xi,xj,rfl,hx1,hx2⟩:=FracV.parts hx
 obtain ⟨W,hW⟩:∃ W,((w.alloc (.cells #[.bool xn,.slice xa xl xk,.bool xm,.slice xb xi xj] 71)).alloc (.cells #[.bool false,.slice none 0 0] 38)) = W:=⟨_,rfl⟩
 have bx:Blk W w.heap.size 71 #[.bool xn,.slice xa xl xk,.bool xm,.slice xb xi xj]:=by rw [← hW]; exact (Blk.new w _ _).alloc _
 have bR:Blk W (w.heap.size + 1) 38 #[.bool false,.slice none 0 0]:=by rw [← hW]; exact Blk.new_at _ _ _ (by simp)
 have sb:Below w.heap.size w W:=by rw [← hW]; exact ((Below.refl w.heap.size w).alloc (Nat.le_refl _) _).alloc (by simp) _
 obtain ⟨cx0,cx1,cx2,cx3,-⟩:=bx.c4
 have hK:Kp w 38 (w.heap.size + 1) W:=⟨sb,by omega,_,_,_,_,bR⟩
 have HW:=hide hW
 clear hW bx bR
 go_enter Try.func33,Try.ntmps33
 go_upto_region 1 with (fail)
 rw [HW.out]
 clear HW
 replace hd0:=hide hd0
 have hS1:W.cell? ⟨w.heap.size,0,none⟩ = some (.bool xn) ∧ W.cell? ⟨w.heap.size,1,none⟩ = some (.slice xa xl xk) ∧ W.cell? ⟨w.heap.size,2,none⟩ = some (.bool xm) ∧ W.cell? ⟨w.heap.size,3,none⟩ = some (.slice xb xi xj) ∧ Kp w 38 (w.heap.size + 1) W:=⟨cx0,cx1,cx2,cx3,hK⟩
 have hWs:=hS1.2.2.2.2.bel.size
 have hWR:w.heap.size + 1 < W.heap.size:=by obtain ⟨_,_,_,_,h⟩:=hK.blk; exact h.lt
 go_cut [4,5] from 6 to 13 (fun v5 v6 wc=>∃ g5 g6 sn sa sl sk tn ta tl tk,v5 = .pointer (some ⟨g5,0,none⟩) ∧ v6 = .pointer (some ⟨g6,0,none⟩) ∧ w.heap.size + 1 < g5 ∧ w.heap.size + 1 < g6 ∧ Blk wc g5 38 #[.bool sn,.slice sa sl sk] ∧ Blk wc g6 38 #[.bool tn,.slice ta tl tk] ∧ IntV wc (.agg #[.bool sn,.slice sa sl sk]) (p.num / (p.den:Int)) ∧ IntV wc (.agg #[.bool tn,.slice ta tl tk]) (p.num % (p.den:Int)) ∧ wc.cell? ⟨w.heap.size,0,none⟩ = some (.bool xn) ∧ wc.cell? ⟨w.heap.size,1,none⟩ = some (.slice xa xl xk) ∧ wc.cell? ⟨w.heap.size,2,none⟩ = some (.bool xm) ∧ wc.cell? ⟨w.heap.size,3,none⟩ = some (.slice xb xi xj) ∧ Kp w 38 (w.heap.size + 1) wc)
 case first=>
  go_region_held3 (fun w'=>w'.cell? ⟨w.heap.size,0,none⟩ = some (.bool xn) ∧ w'.cell? ⟨w.heap.size,1,none⟩ = some (.slice xa xl xk) ∧ w'.cell? ⟨w.heap.size,2,none⟩ = some (.bool xm) ∧ w'.cell? ⟨w.heap.size,3,none⟩ = some (.slice xb xi xj) ∧ Kp w 38 (w.heap.size + 1) w')
   (exact keepK4 hS1 (by repeat (first | with_reducible exact Below.refl _ _ | with_reducible refine bl_drew ?_ | with_reducible refine bl_alloc ?_ _ | with_reducible refine bl_set ?_ (by omega) _ _ | with_reducible refine bl_call ?_ (by with_reducible assumption))))
   (first
    | (go_at_call_of 63 (Value.agg #[.bool xn,.slice xa xl xk,.bool xm,.slice xb xi xj]); (with_reducible refine (under_at hx (by go_split_ands; exact Kp.bel (by assumption))).mono ?_); rintro e wN ⟨r,rfl,hr,hb1⟩; obtain ⟨dn,da,dl,dk,rfl⟩:=hr.parts; have hs1:=hb1.size; (try simp only [World.size_drew] at hs1); (try simp only [World.size_alloc] at hs1); (first | with_reducible replace hA:=Blk.later hb1 hA | with_reducible replace hA:=Blk.later hb1 (Blk.alloc hA _) | with_reducible replace hA:=Blk.later hb1 (Blk.alloc (Blk.alloc hA _) _) | skip); (first | with_reducible replace hB:=Blk.later hb1 hB | with_reducible replace hB:=Blk.later hb1 (Blk.alloc hB _) | with_reducible replace hB:=Blk.later hb1 (Blk.alloc (Blk.alloc hB _) _) | skip); (first | (have _t:=hA; first | (have hB:=Blk.later hb1 (Blk.new _ _ _)) | skip) | (have hA:=Blk.later hb1 (Blk.alloc (Blk.new _ _ _) _); have hB:=Blk.later hb1 (Blk.new _ _ _)) | (have hA:=Blk.later hb1 (Blk.drew (Blk.alloc (Blk.new _ _ _) _)); have hB:=Blk.later hb1 (Blk.drew (Blk.new _ _ _))) | (have hA:=Blk.later hb1 (Blk.new _ _ _)) | (have hA:=Blk.later hb1 (Blk.drew (Blk.new _ _ _))) | skip); (try (try simp only [World.size_alloc] at hA); obtain ⟨khA0,khA1,khAf⟩:=hA.c2; have khA2:=khAf 0; have khA3:=khAf 1; have khAl:=hA.lt; clear khAf); (try (try simp only [World.size_alloc] at hB); obtain ⟨khB0,khB1,khBf⟩:=hB.c2; have khB2:=khBf 0; have khB3:=khBf 1; have khBl:=hB.lt; clear khBf))
    | (go_at_call_of 62 (Value.agg #[.bool xn,.slice xa xl xk]); (with_reducible refine (Div_any _ (hx1.below (by go_split_ands; exact Kp.bel (by assumption)) (Nat.le_refl _)) (by repeat (first | with_reducible assumption | with_reducible refine IntV.drewd ?_ | with_reducible refine IntV.allocd ?_ _)) sx sd).mono ?_); rintro e wN ⟨Q,R,rfl,hQ,hR,hb1⟩; rw [if_neg hd0.out] at hQ hR; obtain ⟨sn,sa,sl,sk,rfl⟩:=hQ.parts; obtain ⟨tn,ta,tl,tk,rfl⟩:=hR.parts; have hs1:=hb1.size; (try simp only [World.size_drew] at hs1); (try simp only [World.size_alloc] at hs1); (first | with_reducible replace hA:=Blk.later hb1 hA | with_reducible replace hA:=Blk.later hb1 (Blk.alloc hA _) | with_reducible replace hA:=Blk.later hb1 (Blk.alloc (Blk.alloc hA _) _) | skip); (first | with_reducible replace hB:=Blk.later hb1 hB | with_reducible replace hB:=Blk.later hb1 (Blk.alloc hB _) | with_reducible replace hB:=Blk.later hb1 (Blk.alloc (Blk.alloc hB _) _) | skip); (first | (have _t:=hA; first | (have hB:=Blk.later hb1 (Blk.new _ _ _)) | skip) | (have hA:=Blk.later hb1 (Blk.alloc (Blk.new _ _ _) _); have hB:=Blk.later hb1 (Blk.new _ _ _)) | (have hA:=Blk.later hb1 (Blk.drew (Blk.alloc (Blk.new _ _ _) _)); have hB:=Blk.later hb1 (Blk.drew (Blk.new _ _ _))) | (have hA:=Blk.later hb1 (Blk.new _ _ _)) | (have hA:=Blk.later hb1 (Blk.drew (Blk.new _ _ _))) | skip); (try (try simp only [World.size_alloc] at hA); obtain ⟨khA0,khA1,khAf⟩:=hA.c2; have khA2:=khAf 0; have khA3:=khAf 1; have khAl:=hA.lt; clear khAf); (try (try simp only [World.size_alloc] at hB); obtain ⟨khB0,khB1,khBf⟩:=hB.c2; have khB2:=khBf 0; have khB3:=khBf 1; have khBl:=hB.lt; clear khBf)))
  all_goals
   go_wp2_with fail
   go_meet
   refine ⟨_,_,sn,sa,sl,sk,tn,ta,tl,tk,rfl,rfl,?r6,?r7,?r1,?r2,?r3,?r4,?r5⟩
   case r6=>omega
   case r7=>omega
   case r1=>repeat (first | with_reducible refine Blk.later (by with_reducible assumption) ?_ | with_reducible refine Blk.drew ?_ | with_reducible exact Blk.new _ _ _ | with_reducible exact Blk.new_at _ _ _ (World.size_alloc _ _).symm | with_reducible exact Blk.new_at _ _ _ ((World.size_setCell _ _ _).trans (World.size_setCell _ _ _)).symm | with_reducible refine Blk.alloc ?_ _ | with_reducible refine Blk.two (a:=.bool false) (b:=.slice none 0 0) ?_ _ _ | with_reducible refine Blk.far ?_ (by simp only [ne_eq]; omega) _)
   case r2=>repeat (first | with_reducible refine Blk.later (by with_reducible assumption) ?_ | with_reducible refine Blk.drew ?_ | with_reducible exact Blk.new _ _ _ | with_reducible exact Blk.new_at _ _ _ (World.size_alloc _ _).symm | with_reducible exact Blk.new_at _ _ _ ((World.size_setCell _ _ _).trans (World.size_setCell _ _ _)).symm | with_reducible refine Blk.alloc ?_ _ | with_reducible refine Blk.two (a:=.bool false) (b:=.slice none 0 0) ?_ _ _ | with_reducible refine Blk.far ?_ (by simp only [ne_eq]; omega) _)
   case r3=>((repeat (first | with_reducible assumption | with_reducible refine IntV.drewd ?_ | with_reducible refine IntV.allocd ?_ _ | with_reducible refine IntV.store ?_ (n:=false) (b:=none) (l:=0) (m:=0) ?_ _ _ | with_reducible refine IntV.later (by with_reducible assumption) ?_)); all_goals repeat (first | with_reducible refine Blk.later (by with_reducible assumption) ?_ | with_reducible refine Blk.drew ?_ | with_reducible exact Blk.new _ _ _ | with_reducible exact Blk.new_at _ _ _ (World.size_alloc _ _).symm | with_reducible exact Blk.new_at _ _ _ ((World.size_setCell _ _ _).trans (World.size_setCell _ _ _)).symm | with_reducible refine Blk.alloc ?_ _ | with_reducible refine Blk.two (a:=.bool false) (b:=.slice none 0 0) ?_ _ _ | with_reducible refine Blk.far ?_ (by simp only [ne_eq]; omega) _))
   case r4=>((repeat (first | with_reducible assumption | with_reducible refine IntV.drewd ?_ | with_reducible refine IntV.allocd ?_ _ | with_reducible refine IntV.store ?_ (n:=false) (b:=none) (l:=0) (m:=0) ?_ _ _ | with_reducible refine IntV.later (by with_reducible assumption) ?_)); all_goals repeat (first | with_reducible refine Blk.later (by with_reducible assumption) ?_ | with_reducible refine Blk.drew ?_ | with_reducible exact Blk.new _ _ _ | with_reducible exact Blk.new_at _ _ _ (World.size_alloc _ _).symm | with_reducible exact Blk.new_at _ _ _ ((World.size_setCell _ _ _).trans (World.size_setCell _ _ _)).symm | with_reducible refine Blk.alloc ?_ _ | with_reducible refine Blk.two (a:=.bool false) (b:=.slice none 0 0) ?_ _ _ | with_reducible refine Blk.far ?_ (by simp only [ne_eq]; omega) _))
   case r5=>exact keepK4 hS1 (by repeat (first | with_reducible exact Below.refl _ _ | with_reducible refine bl_drew ?_ | with_reducible refine bl_alloc ?_ _ | with_reducible refine bl_set ?_ (by omega) _ _ | with_reducible refine bl_call ?_ (by with_reducible assumption)))
 case rest=>
  obtain ⟨g5,g6,sn,sa,sl,sk,tn,ta,tl,tk,rfl,rfl,hg5,hg6,hBa,hBb,ha,hb,hS⟩:=hcut
  clear hS1 cx0 cx1 cx2 cx3 hK hWs hWR sb hx
  have n5:g5 ≠ w.heap.size + 1:=by omega
  have n6:g6 ≠ w.heap.size + 1:=by omega
  have n7:=n5.symm
  have n8:=n6.symm
  rename_i wc
  obtain ⟨cx0,cx1,cx2,cx3,hK⟩:=hS
  obtain ⟨s0,s1,-⟩:=hBa.c2
  obtain ⟨t0,t1,-⟩:=hBb.c2
  have htl:=hb.sign.2
  have HT:Hid (decide (tl = 0) = decide (p.den = 1)):=hide (by rw [htl]; exact HZ.out)
  clear htl
  generalize hDD:decide (p.den = 1) = D at *
  have HDD:=hide hDD
  clear hDD
  have HT2:Hid (((tl:Int) == 0) = D):=hide (by rw [← HT.out]; by_cases h:tl = 0 <;> simp [h])
  obtain ⟨_,_,_,_,k0,k1,kf0,kf1,hX4⟩:=Kp.at (t:=38) (g:=w.heap.size + 1) (w:=w) hK (Below.refl _ _)
  have hI:=ha.st2 hX4 (.bool sn) (.slice sa sl sk)
  obtain ⟨e0,e1,-⟩:=(hX4.two (.bool sn) (.slice sa sl sk)).c2
  have hB2:=set2b hK.bel hK.le 0 1 (.bool sn) (.slice sa sl sk)
  rw [HF.out] at hI
  go_upto_region 2 with (fail)
  go_region
  all_goals
   go_wp2_with fail
   refine bodyPost_ret (v:=.tuple #[.agg #[.bool sn,.slice sa sl sk],.bool D]) (by have h2:=HT2.out; simp [results,Try.results33,go_sem,e0,e1,h2]) rfl ?_
   rw [← HP.out]
   exact ⟨_,by rw [HDD.out],hI,by first | exact hB2.drew | exact hB2⟩


def frightB (r s:Raw):Bool:=rightB r.neg r.ds && (rightB s.neg s.ds && (!s.neg && (s.ds.isEmpty || (!decide (val BB s.ds = 1) && decide (Nat.gcd (val BB r.ds) (val BB s.ds) = 1)))))
theorem frightB_iff (z y:Int) {r s:Raw} (h1:r.neg = decide (z < 0)) (h2:r.ds = dg BB z.natAbs) (h3:s.neg = decide (y < 0)) (h4:s.ds = dg BB y.natAbs) :
  frightB r s = true ↔ ∃ q:Rat,z = q.num ∧ y = und q:=by
 unfold frightB
 rw [h1,h2,h3,h4,rightB_dg,rightB_dg,dg_val BB2,dg_val BB2,Bool.true_and,Bool.true_and]
 have he:(dg BB y.natAbs).isEmpty = decide (y = 0):=by
  rw [Bool.eq_iff_iff,List.isEmpty_iff,dg_eq_nil BB2]; simp
 rw [he]
 constructor
 ·intro h
  simp only [Bool.and_eq_true,Bool.or_eq_true,Bool.not_eq_true',decide_eq_true_eq,decide_eq_false_iff_not] at h
  obtain ⟨hy,h0 | ⟨hn1,hg⟩⟩:=h
  ·subst h0; exact ⟨(z:Rat),by rw [Rat.num_intCast],by rw [und_int]⟩
  ·by_cases h0:y = 0
   ·subst h0; exact ⟨(z:Rat),by rw [Rat.num_intCast],by rw [und_int]⟩
   ·refine ⟨⟨z,y.natAbs,by omega,hg⟩,rfl,?_⟩
    unfold und
    rw [if_neg hn1]
    show y = (y.natAbs:Int)
    omega
 ·rintro ⟨q,rfl,rfl⟩
  have hr:=q.reduced
  have hd:=q.den_nz
  unfold und
  by_cases h:q.den = 1
  ·simp [h]
  ·simp only [if_neg h,Bool.and_eq_true,Bool.or_eq_true,Bool.not_eq_true',decide_eq_true_eq,decide_eq_false_iff_not,Int.natAbs_natCast]
   exact ⟨by omega,.inr ⟨h,hr⟩⟩

set_option maxRecDepth 100000 in
set_option maxHeartbeats 3200000 in
theorem FRight_any (r s:Raw) (w:World) (hr:RawOk w r) (hs:RawOk w s) (hl:r.ds.length ≤ 1000000000) (hk:s.ds.length ≤ 1000000000) :
  Calls Try.prog 51 #[.agg #[.bool r.neg,.slice r.at_ r.ds.length r.cap,.bool s.neg,.slice s.at_ s.ds.length s.cap]] w fun e w'=>e = .returned (.bool (frightB r s)) ∧ Below w.heap.size w w':=by
 generalize hP:(fun (e:Ending) (w':World)=>e = .returned (.bool (frightB r s)) ∧ Below w.heap.size w w') = Post
 have HP:=hide hP
 clear hP
 obtain ⟨W,hW⟩:∃ W,w.alloc (.cells #[.bool r.neg,.slice r.at_ r.ds.length r.cap,.bool s.neg,.slice s.at_ s.ds.length s.cap] 71) = W:=⟨_,rfl⟩
 have bx:Blk W w.heap.size 71 #[.bool r.neg,.slice r.at_ r.ds.length r.cap,.bool s.neg,.slice s.at_ s.ds.length s.cap]:=by rw [← hW]; exact Blk.new w _ _
 have sb:Below w.heap.size w W:=by rw [← hW]; exact (Below.refl w.heap.size w).alloc (Nat.le_refl _) _
 have hr0:=hr.below sb (Nat.le_refl _)
 have hs0:=hs.below sb (Nat.le_refl _)
 have HW:=hide hW
 clear hW
 go_enter Try.func51,Try.ntmps51
 go_upto_region 1 with (fail)
 rw [HW.out]
 clear HW
 obtain ⟨x0,x1,x2,x3,-⟩:=bx.c4
 have HF:Hid (frightB r s = (rightB r.neg r.ds && (rightB s.neg s.ds && (!s.neg && (s.ds.isEmpty || (!decide (val BB s.ds = 1) && decide (Nat.gcd (val BB r.ds) (val BB s.ds) = 1))))))):=hide rfl
 go_wp2_with fail
 refine (Right_any r.neg r.at_ r.cap r.ds W hr0.dig (by omega)).mono ?_
 rintro e w1 ⟨rfl,hb1⟩
 replace bx:=bx.below hb1 bx.lt
 replace sb:=sb.trans (hb1.mono sb.size)
 replace hs0:=hs0.below hb1 (Nat.le_refl _)
 replace hr0:=hr0.below hb1 (Nat.le_refl _)
 clear x0 x1 x2 x3 hb1
 cases h1:rightB r.neg r.ds with
 | false=>
  have HV:Hid (frightB r s = false):=hide (by rw [HF.out,h1]; rfl)
  clear h1
  go_wp2_with fail
  rw [← HP.out]
  exact ⟨by rw [HV.out]; rfl,sb⟩
 | true=>
  obtain ⟨x0,x1,x2,x3,-⟩:=bx.c4
  have H1:=hide h1
  clear h1
  go_wp2_with fail
  refine (Right_any s.neg s.at_ s.cap s.ds w1 hs0.dig (by omega)).mono ?_
  rintro e w2 ⟨rfl,hb2⟩
  replace bx:=bx.below hb2 bx.lt
  replace sb:=sb.trans (hb2.mono sb.size)
  replace hs0:=hs0.below hb2 (Nat.le_refl _)
  replace hr0:=hr0.below hb2 (Nat.le_refl _)
  clear x0 x1 x2 x3 hb2
  cases h2:rightB s.neg s.ds with
  | false=>
   have HV:Hid (frightB r s = false):=hide (by rw [HF.out,h2,H1.out]; rfl)
   clear h2
   go_wp2_with fail
   rw [← HP.out]
   exact ⟨by rw [HV.out]; rfl,sb⟩
  | true=>
   obtain ⟨z,hz1,hz2⟩:=rightB_val H1.out
   obtain ⟨y,hy1,hy2⟩:=rightB_val h2
   have H2:=hide h2
   have hiz:IntV w2 (.agg #[.bool r.neg,.slice r.at_ r.ds.length r.cap]) z:=⟨r.at_,r.cap,by rw [hz1,hz2],by rw [← hz2]; exact hr.fit,by rw [← hz2]; exact hr0.dig⟩
   have hiy:IntV w2 (.agg #[.bool s.neg,.slice s.at_ s.ds.length s.cap]) y:=⟨s.at_,s.cap,by rw [hy1,hy2],by rw [← hy2]; exact hs.fit,by rw [← hy2]; exact hs0.dig⟩
   have sz:Sm z:=by unfold Sm len; rw [← hz2]; omega
   have sy:Sm y:=by unfold Sm len; rw [← hy2]; omega
   have HZ:Hid (val BB r.ds = z.natAbs):=hide (by rw [hz2,dg_val BB2])
   have HY:Hid (val BB s.ds = y.natAbs):=hide (by rw [hy2,dg_val BB2])
   have HN:Hid (s.neg = decide (y < 0)):=hide hy1
   have HE:Hid (s.ds.isEmpty = decide (s.ds.length = 0)):=hide (by cases s.ds <;> rfl)
   clear h2 hz1 hz2 hy1 hy2 hr hs hr0 hs0
   generalize s.ds.length = l at *
   generalize r.ds.length = k at *
   obtain ⟨x0,x1,x2,x3,-⟩:=bx.c4
   cases hn:s.neg with
   | true=>
    rw [hn] at x2
    have HV:Hid (frightB r s = false):=hide (by rw [HF.out,hn]; simp)
    clear hn
    go_wp2_with fail
    rw [← HP.out]
    exact ⟨by rw [HV.out]; rfl,sb⟩
   | false=>
    rw [hn] at x2 hiy bx
    have HNF:=hide hn
    clear hn
    by_cases h0:l = 0
    ·have HV:Hid (frightB r s = true):=hide (by rw [HF.out,H1.out,H2.out,HE.out,HNF.out,h0]; rfl)
     have e0:((l:Int) == 0) = true:=by simp [h0]
     subst h0
     clear x0
     go_wp2_with fail
     rw [← HP.out]
     exact ⟨by rw [HV.out]; rfl,sb⟩
    ·have e0:((l:Int) == 0) = false:=beq_eq_false_iff_ne.2 (by omega)
     have e1:decide (l = 0) = false:=decide_eq_false h0
     have HE2:=hide e1
     have hyp:0 ≤ y:=by
      have h:=HN.out
      rw [HNF.out] at h
      simpa using h.symm
     clear h0
     go_wp2_with fail
     refine (isOne_any w2 hiy sy).mono ?_
     rintro e w3 ⟨rfl,hb3⟩
     replace bx:=bx.below hb3 bx.lt
     replace sb:=sb.trans (hb3.mono sb.size)
     replace hiz:=hiz.below hb3 (Nat.le_refl _)
     replace hiy:=hiy.below hb3 (Nat.le_refl _)
     clear x0 x1 x2 x3 hb3 e0 e1
     by_cases hone:y = 1
     ·have e2:=decide_eq_true hone
      have HV:Hid (frightB r s = false):=hide (by rw [HF.out,HY.out,HE.out,HE2.out,hone]; simp)
      clear hone
      go_wp2_with fail
      rw [← HP.out]
      exact ⟨by rw [HV.out]; rfl,sb⟩
     ·have e2:=decide_eq_false hone
      have HV:Hid (frightB r s = decide (((Nat.gcd z.natAbs y.natAbs:Nat):Int) = 1)):=hide (by
       rw [HF.out,H1.out,H2.out,HNF.out,HY.out,HZ.out,HE.out,HE2.out]
       have:¬ y.natAbs = 1:=by omega
       rw [Bool.eq_iff_iff]
       simp [this]
       omega)
      clear hone hyp
      obtain ⟨x0,x1,x2,x3,-⟩:=bx.c4
      go_wp2_with fail
      refine (Gcd_any w3 hiz hiy sz sy).mono ?_
      rintro e w4 ⟨g,rfl,hg,hb4⟩
      replace sb:=sb.trans (hb4.mono sb.size)
      clear x0 x1 x2 x3 hb4
      go_wp2_with fail
      refine (isOne_any w4 hg (sm_gcd sz sy)).mono ?_
      rintro e w5 ⟨rfl,hb5⟩
      replace sb:=sb.trans (hb5.mono sb.size)
      clear e2
      generalize hv:decide (((Nat.gcd z.natAbs y.natAbs:Nat):Int) = 1) = vv at *
      clear hv
      go_wp2_with fail
      rw [← HP.out]
      exact ⟨by rw [HV.out]; rfl,sb⟩
end Go.Proofs.Ytphjffbldhhdiaa
