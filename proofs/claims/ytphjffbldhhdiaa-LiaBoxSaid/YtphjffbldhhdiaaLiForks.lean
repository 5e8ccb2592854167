/- The forks, one more. -/
import Derived.Test.YtphjffbldhhdiaaLiSt
namespace Go.Proofs.Ytphjffbldhhdiaa
open Go.RowKit

section
variable {w w':World} {row:Option Nat} {g g' o o' N:Nat} {z:Int} {b:Option Int} {k:Fk} {ks:List Fk} {v v':Value}
theorem IAt.moved (h:IAt w g o z) (hg:w.grownBy w' row) (hc:∀ g,row = some g → Calm w g) (he:∀ d u,d < 2 → w.cell? ⟨g,o + d,none⟩ = some u → w'.cell? ⟨g',o' + d,none⟩ = some u):IAt w' g' o' z:=by
 obtain ⟨n,a,l,k,h0,h1,h2⟩:=h
 exact ⟨n,a,l,k,he 0 _ (by decide) h0,he 1 _ (by decide) h1,h2.grown hg hc⟩
theorem BAt.moved (h:BAt w g o b) (hg:w.grownBy w' row) (hc:∀ g,row = some g → Calm w g) (he:∀ d u,d < 3 → w.cell? ⟨g,o + d,none⟩ = some u → w'.cell? ⟨g',o' + d,none⟩ = some u):BAt w' g' o' b:=by
 obtain ⟨ok,z,h0,h1,h2⟩:=h
 exact ⟨ok,z,he 0 _ (by decide) h0,h1.moved hg hc (fun d u hd hu=>by
  have:=he (1 + d) u (by omega) (by rw [← Nat.add_assoc]; exact hu)
  rwa [← Nat.add_assoc] at this),h2⟩
theorem FkAt.moved (h:FkAt w g o k) (hg:w.grownBy w' row) (hc:∀ g,row = some g → Calm w g) (he:∀ d u,d < 7 → w.cell? ⟨g,o + d,none⟩ = some u → w'.cell? ⟨g',o' + d,none⟩ = some u):FkAt w' g' o' k:=by
 obtain ⟨h0,h1,h2,h3⟩:=h
 refine ⟨he 0 _ (by decide) h0,h1.moved hg hc (fun d u hd hu=>?_),he 3 _ (by decide) h2,h3.moved hg hc (fun d u hd hu=>?_)⟩
 ·have:=he (1 + d) u (by omega) (by rw [← Nat.add_assoc]; exact hu)
  rwa [← Nat.add_assoc] at this
 ·have:=he (4 + d) u (by omega) (by rw [← Nat.add_assoc]; exact hu)
  rwa [← Nat.add_assoc] at this
def fkCells (k:Fk) (n:Bool) (a:Option Addr) (l c:Nat) (ok m:Bool) (b:Option Addr) (i j:Nat):List Value:=[.int .i64 (k.v:Int),.bool n,.slice a l c,.bool k.up,.bool ok,.bool m,.slice b i j]
theorem ForksC.grow {xs:List Value} {n ok m:Bool} {a b:Option Addr} {l c i j:Nat} {y:Int} (h1:w.ownsRow N 84 7 v ks.length xs) (h2:∀ g,v.ownBlock = some g → Calm w g) (h3:∀ g,v.ownBlock = some g → ∀ i k,ks.reverse[i]? = some k → FkAt w g (i * 7) k)
  (hown:w'.ownsRow N 84 7 v' (ks.length + 1) (xs ++ fkCells k n a l c ok m b i j)) (hgrow:w.grownBy w' v.ownBlock) (hcalm:∀ g,v'.ownBlock = some g → Calm w' g) (hf:IntV w (.agg #[.bool n,.slice a l c]) k.fl) (hy:IntV w (.agg #[.bool m,.slice b i j]) y) (hk:k.old = if ok = true then some y else none):ForksC w' N v' (k :: ks):=by
 refine ⟨_,hown,hcalm,fun g' hg' q k' hq=>?_⟩
 have hxl:xs.length = ks.length * 7:=h1.1
 have hcell:=hown.cells hg'
 rw [List.reverse_cons] at hq
 rcases Nat.lt_or_ge q ks.length with hlt | hge
 ·rw [List.getElem?_append_left (by rw [List.length_reverse]; exact hlt)] at hq
  rcases h1.2 with ⟨_,h0⟩ | ⟨g,cap,cur,rfl,_,hgb,_,_,_,ht⟩
  ·omega
  ·refine (h3 g rfl q k' hq).moved hgrow h2 (fun d u hd hu=>?_)
   have hx:xs[q * 7 + d]? = some u:=by
    rw [Blk.cell (t:=84) (cs:=cur) hgb] at hu
    rw [← ht,List.getElem?_take_of_lt (by omega)]
    simpa using hu
   have:=hcell (q * 7 + d) u (by rw [List.getElem?_append_left (by omega)]; exact hx)
   rw [add_plain,Nat.zero_add] at this
   exact this
 ·have hl:=(List.getElem?_eq_some_iff.1 hq).1
  rw [List.length_append,List.length_reverse] at hl
  obtain rfl:q = ks.length:=by simp at hl; omega
  rw [List.getElem?_append_right (by rw [List.length_reverse]; exact Nat.le_refl _),List.length_reverse,Nat.sub_self] at hq
  obtain rfl:k = k':=by simpa using hq
  have hc:∀ d u,(fkCells k n a l c ok m b i j)[d]? = some u → w'.cell? ⟨g',ks.length * 7 + d,none⟩ = some u:=fun d u hu=>by
   have:=hcell (ks.length * 7 + d) u (by rw [List.getElem?_append_right (by omega),show ks.length * 7 + d - xs.length = d from by omega]; exact hu)
   rw [add_plain,Nat.zero_add] at this
   exact this
  exact ⟨hc 0 _ rfl,⟨n,a,l,c,hc 1 _ rfl,hc 2 _ rfl,hf.grown hgrow h2⟩,hc 3 _ rfl,ok,y,hc 4 _ rfl,⟨m,b,i,j,hc 5 _ rfl,hc 6 _ rfl,hy.grown hgrow h2⟩,hk⟩
end
end Go.Proofs.Ytphjffbldhhdiaa
