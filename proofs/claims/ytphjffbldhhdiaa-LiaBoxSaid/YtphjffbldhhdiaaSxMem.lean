/- Rows of fractions and of numbers in memory; a table. -/
import Derived.Test.YtphjffbldhhdiaaSxLess
import Derived.Test.YtphjffbldhhdiaaSxSum
namespace Go.Proofs.Ytphjffbldhhdiaa
open Go.RowKit

def FAt (w:World) (g o:Nat) (q:Rat):Prop:=∃ (n:Bool) (a:Option Addr) (l k:Nat) (m:Bool) (b:Option Addr) (i j:Nat),w.cell? ⟨g,o,none⟩ = some (.bool n) ∧ w.cell? ⟨g,o + 1,none⟩ = some (.slice a l k) ∧ w.cell? ⟨g,o + 2,none⟩ = some (.bool m) ∧ w.cell? ⟨g,o + 3,none⟩ = some (.slice b i j) ∧ FracV w (.agg #[.bool n,.slice a l k,.bool m,.slice b i j]) q
section
variable {w w':World} {g o B:Nat} {q:Rat}
theorem FAt.lt (h:FAt w g o q):g < w.heap.size:=by
 obtain ⟨_,_,_,_,_,_,_,_,h0,-⟩:=h
 exact World.block_lt_of_cell? w _ h0
theorem FAt.below (h:FAt w g o q) (hb:Below B w w') (hB:w.heap.size ≤ B):FAt w' g o q:=by
 have hlt:g < B:=Nat.lt_of_lt_of_le h.lt hB
 obtain ⟨n,a,l,k,m,b,i,j,h0,h1,h2,h3,h4⟩:=h
 exact ⟨n,a,l,k,m,b,i,j,(hb.cell hlt).trans h0,(hb.cell hlt).trans h1,(hb.cell hlt).trans h2,(hb.cell hlt).trans h3,h4.below hb hB⟩
end

def NoDig (w:World) (p:Addr):Prop:=∀ z,w.cell? p ≠ some (.int .u32 z)
section
variable {w w':World} {p:Addr} {g o B:Nat} {q:Rat} {v x:Value} {z:Int}
theorem NoDig.of (h:w.cell? p = some x) (hx:∀ z,x ≠ .int .u32 z):NoDig w p:=fun z e=>hx z (by rw [h] at e; exact Option.some.inj e)
theorem NoDig.far (h:NoDig w p) {r:Addr} (hr:r ≠ p) (x:Value):NoDig (w.setCell r x) p:=by
 intro z e
 rw [World.cell?_setCell_other _ _ _ _ hr] at e
 exact h z e
theorem IntV.setX (h:IntV w v z) (hp:NoDig w p) (u:Value):IntV (w.setCell p u) v z:=by
 obtain ⟨a,cap,e,hf,hd⟩:=h
 refine ⟨a,cap,e,hf,fun hn=>?_⟩
 obtain ⟨b,off,e,hc⟩:=hd hn
 refine ⟨b,off,e,fun j hj=>?_⟩
 have hne:p ≠ ⟨b,off + j,none⟩:=fun he=>hp _ (by rw [he]; exact hc j hj)
 rw [World.cell?_setCell_other _ _ _ _ hne]
 exact hc j hj
theorem FracV.setX (h:FracV w v q) (hp:NoDig w p) (u:Value):FracV (w.setCell p u) v q:=by
 obtain ⟨_,_,_,_,_,_,_,_,e,h1,h2⟩:=h
 exact ⟨_,_,_,_,_,_,_,_,e,h1.setX hp u,h2.setX hp u⟩
theorem FAt.setX (h:FAt w g o q) (hp:NoDig w p) (hne:p.block ≠ g ∨ p.off < o ∨ o + 4 ≤ p.off) (u:Value):FAt (w.setCell p u) g o q:=by
 obtain ⟨n,a,l,k,m,b,i,j,h0,h1,h2,h3,h4⟩:=h
 have hx:∀ d,d < 4 → p ≠ ⟨g,o + d,none⟩:=fun d hd he=>by rw [he] at hne; simp at hne; omega
 refine ⟨n,a,l,k,m,b,i,j,?_,?_,?_,?_,h4.setX hp u⟩
 ·rw [World.cell?_setCell_other _ _ _ _ (show p ≠ ⟨g,o,none⟩ from hx 0 (by omega))]; exact h0
 ·rw [World.cell?_setCell_other _ _ _ _ (hx 1 (by omega))]; exact h1
 ·rw [World.cell?_setCell_other _ _ _ _ (hx 2 (by omega))]; exact h2
 ·rw [World.cell?_setCell_other _ _ _ _ (hx 3 (by omega))]; exact h3
end

def put4 (w:World) (g o:Nat) (p q r s:Value):World:=(((w.setCell ⟨g,o,none⟩ p).setCell ⟨g,o + 1,none⟩ q).setCell ⟨g,o + 2,none⟩ r).setCell ⟨g,o + 3,none⟩ s
section
variable {w w':World} {g o g' o' B:Nat} {q q':Rat} {n m:Bool} {a b:Option Addr} {l k i j:Nat}
theorem FAt.nodig (h:FAt w g o q) {d:Nat} (hd:d < 4):NoDig w ⟨g,o + d,none⟩:=by
 obtain ⟨n,a,l,k,m,b,i,j,h0,h1,h2,h3,h4⟩:=h
 match d,hd with
 | 0,_=>exact NoDig.of h0 (by intro z e; cases e)
 | 1,_=>exact NoDig.of h1 (by intro z e; cases e)
 | 2,_=>exact NoDig.of h2 (by intro z e; cases e)
 | 3,_=>exact NoDig.of h3 (by intro z e; cases e)
theorem nodig4 (h:FAt w g o q) (x y z:Value):NoDig w ⟨g,o,none⟩ ∧ NoDig (w.setCell ⟨g,o,none⟩ x) ⟨g,o + 1,none⟩ ∧ NoDig ((w.setCell ⟨g,o,none⟩ x).setCell ⟨g,o + 1,none⟩ y) ⟨g,o + 2,none⟩ ∧ NoDig (((w.setCell ⟨g,o,none⟩ x).setCell ⟨g,o + 1,none⟩ y).setCell ⟨g,o + 2,none⟩ z) ⟨g,o + 3,none⟩:=
 ⟨h.nodig (d:=0) (by omega),(h.nodig (d:=1) (by omega)).far (by simp) _,((h.nodig (d:=2) (by omega)).far (by simp) _).far (by simp) _,(((h.nodig (d:=3) (by omega)).far (by simp) _).far (by simp) _).far (by simp) _⟩
theorem FAt.put4 (h:FAt w g o q) (h':FAt w g' o' q') (hne:g ≠ g' ∨ o + 4 ≤ o' ∨ o' + 4 ≤ o):FAt (put4 w g' o' (.bool n) (.slice a l k) (.bool m) (.slice b i j)) g o q:=by
 obtain ⟨n0,n1,n2,n3⟩:=nodig4 h' (.bool n) (.slice a l k) (.bool m)
 have hx:∀ d,d < 4 → g' ≠ g ∨ o' + d < o ∨ o + 4 ≤ o' + d:=fun d hd=>by omega
 exact (((h.setX n0 (hx 0 (by omega)) _).setX n1 (hx 1 (by omega)) _).setX n2 (hx 2 (by omega)) _).setX n3 (hx 3 (by omega)) _
theorem FracV.put4 {v:Value} (h:FracV w v q) (h':FAt w g' o' q'):FracV (put4 w g' o' (.bool n) (.slice a l k) (.bool m) (.slice b i j)) v q:=by
 obtain ⟨n0,n1,n2,n3⟩:=nodig4 h' (.bool n) (.slice a l k) (.bool m)
 exact (((h.setX n0 _).setX n1 _).setX n2 _).setX n3 _
theorem cell_put4 (w:World) (g o:Nat) (p q r s:Value) (x:Addr) (hx:x.block ≠ g ∨ x.off < o ∨ o + 4 ≤ x.off):(put4 w g o p q r s).cell? x = w.cell? x:=by
 have hne:∀ d,d < 4 → (⟨g,o + d,none⟩:Addr) ≠ x:=fun d hd he=>by rw [← he] at hx; simp at hx; omega
 unfold Go.Proofs.Ytphjffbldhhdiaa.put4
 rw [World.cell?_setCell_other _ _ _ _ (hne 3 (by omega)),World.cell?_setCell_other _ _ _ _ (hne 2 (by omega)),World.cell?_setCell_other _ _ _ _ (hne 1 (by omega)),World.cell?_setCell_other _ _ _ _ (show (⟨g,o,none⟩:Addr) ≠ x from hne 0 (by omega))]
theorem put4_cells (h:FAt w g o q) (x y z u:Value):(put4 w g o x y z u).cell? ⟨g,o,none⟩ = some x ∧ (put4 w g o x y z u).cell? ⟨g,o + 1,none⟩ = some y ∧ (put4 w g o x y z u).cell? ⟨g,o + 2,none⟩ = some z ∧ (put4 w g o x y z u).cell? ⟨g,o + 3,none⟩ = some u:=by
 obtain ⟨n,a,l,k,m,b,i,j,h0,h1,h2,h3,h4⟩:=h
 have d01:(⟨g,o,none⟩:Addr) ≠ ⟨g,o + 1,none⟩:=by simp
 have d02:(⟨g,o,none⟩:Addr) ≠ ⟨g,o + 2,none⟩:=by simp
 have d03:(⟨g,o,none⟩:Addr) ≠ ⟨g,o + 3,none⟩:=by simp
 have d12:(⟨g,o + 1,none⟩:Addr) ≠ ⟨g,o + 2,none⟩:=by simp
 have d13:(⟨g,o + 1,none⟩:Addr) ≠ ⟨g,o + 3,none⟩:=by simp
 have d23:(⟨g,o + 2,none⟩:Addr) ≠ ⟨g,o + 3,none⟩:=by simp
 unfold Go.Proofs.Ytphjffbldhhdiaa.put4
 refine ⟨?_,?_,?_,?_⟩
 ·rw [World.cell?_setCell_other _ _ _ _ d03.symm,World.cell?_setCell_other _ _ _ _ d02.symm,World.cell?_setCell_other _ _ _ _ d01.symm,World.cell?_setCell_same' _ _ _ (by rw [h0]; rfl)]
 ·rw [World.cell?_setCell_other _ _ _ _ d13.symm,World.cell?_setCell_other _ _ _ _ d12.symm,World.cell?_setCell_same' _ _ _ (by rw [World.cell?_setCell_other _ _ _ _ d01,h1]; rfl)]
 ·rw [World.cell?_setCell_other _ _ _ _ d23.symm,World.cell?_setCell_same' _ _ _ (by rw [World.cell?_setCell_other _ _ _ _ d12,World.cell?_setCell_other _ _ _ _ d02,h2]; rfl)]
 ·rw [World.cell?_setCell_same' _ _ _ (by rw [World.cell?_setCell_other _ _ _ _ d23,World.cell?_setCell_other _ _ _ _ d13,World.cell?_setCell_other _ _ _ _ d03,h3]; rfl)]
theorem FAt.put4_at (h:FracV w (.agg #[.bool n,.slice a l k,.bool m,.slice b i j]) q) (h':FAt w g o q'):FAt (Go.Proofs.Ytphjffbldhhdiaa.put4 w g o (.bool n) (.slice a l k) (.bool m) (.slice b i j)) g o q:=by
 obtain ⟨e0,e1,e2,e3⟩:=put4_cells h' (.bool n) (.slice a l k) (.bool m) (.slice b i j)
 exact ⟨n,a,l,k,m,b,i,j,e0,e1,e2,e3,h.put4 h'⟩
theorem below_put4 {w0:World} (h:Below B w0 w) (hg:B ≤ g) (p q r s:Value):Below B w0 (put4 w g o p q r s):=(((h.setCell hg _).setCell hg _).setCell hg _).setCell hg _
theorem frozen_put4 (w:World) (g o:Nat) (p q r s:Value) (x:Addr):(put4 w g o p q r s).frozen? x = w.frozen? x:=by
 unfold Go.Proofs.Ytphjffbldhhdiaa.put4
 rw [World.frozen?_setCell,World.frozen?_setCell,World.frozen?_setCell,World.frozen?_setCell]
end
end Go.Proofs.Ytphjffbldhhdiaa
