/- Stores into blocks that hold no digits. -/
import Derived.Test.YtphjffbldhhdiaaLiRaw
import Derived.Test.YtphjffbldhhdiaaSxLayM
namespace Go.Proofs.Ytphjffbldhhdiaa
open Go.RowKit

theorem NoU.i64 (z:Int):NoU (.int .i64 z):=fun z e=>by cases e
def CB (w:World) (g:Nat) (t:TypeId) (n:Nat):Prop:=∃ cs:Array Value,Blk w g t cs ∧ cs.size = n ∧ ∀ u ∈ cs,NoU u
def putL (g:Nat):World → Nat → List Value → World
 | w,_,[]=>w
 | w,o,v :: vs=>putL g (w.setCell ⟨g,o,none⟩ v) (o + 1) vs
section
variable {w w' w0:World} {g g' o o' n B:Nat} {t:TypeId} {u v:Value} {z:Int} {q:Rat} {vs:List Value}
theorem CB.lt (h:CB w g t n):g < w.heap.size:=by
 obtain ⟨cs,h1,_⟩:=h
 exact h1.lt
theorem CB.calm (h:CB w g t n):Calm w g:=by
 obtain ⟨cs,h1,_,h3⟩:=h
 exact Calm.of h1 h3
theorem CB.frozen (h:CB w g t n) (i:Nat):w.frozen? ⟨g,i,none⟩ = false:=by
 obtain ⟨cs,h1,_,_⟩:=h
 exact h1.frozen i
theorem CB.there (h:CB w g t n) {i:Nat} (hi:i < n):(w.cell? ⟨g,i,none⟩).isSome = true:=by
 obtain ⟨cs,h1,h2,_⟩:=h
 rw [h1.cell,Array.getElem?_eq_getElem (by omega)]
 rfl
theorem CB.below (h:CB w g t n) (hb:Below B w w') (hg:g < B):CB w' g t n:=by
 obtain ⟨cs,h1,h2,h3⟩:=h
 exact ⟨cs,h1.below hb hg,h2,h3⟩
theorem CB.grown {row:Option Nat} (h:CB w g t n) (hb:w.grownBy w' row) (hg:some g ≠ row):CB w' g t n:=by
 obtain ⟨cs,h1,h2,h3⟩:=h
 exact ⟨cs,h1.grown hb hg,h2,h3⟩
theorem CB.set1 (h:CB w g t n) (i:Nat) (hu:NoU u):CB (w.setCell ⟨g,i,none⟩ u) g t n:=by
 obtain ⟨cs,h1,h2,h3⟩:=h
 refine ⟨_,h1.set_ i u,by rw [Array.size_setIfInBounds]; exact h2,fun x hx=>?_⟩
 rcases Array.mem_or_eq_of_mem_setIfInBounds hx with h | h
 ·exact h3 x h
 ·rw [h]; exact hu
theorem CB.far (h:CB w g t n) {p:Addr} (hp:g ≠ p.block) (u:Value):CB (w.setCell p u) g t n:=by
 obtain ⟨cs,h1,h2,h3⟩:=h
 exact ⟨cs,h1.far hp u,h2,h3⟩
theorem CB.nodig (h:CB w g t n) (i:Nat):NoDig w ⟨g,i,none⟩:=fun z=>h.calm i z
theorem CB.putL:∀ {vs:List Value} {w:World} {o:Nat},CB w g t n → (∀ u ∈ vs,NoU u) → CB (putL g w o vs) g t n
 | [],_,_,h,_=>h
 | v :: vs,_,_,h,hu=>CB.putL (vs:=vs) (h.set1 _ (hu v (List.mem_cons_self ..))) (fun u hx=>hu u (List.mem_cons_of_mem _ hx))
theorem CB.putL_far:∀ {vs:List Value} {w:World} {o:Nat},CB w g t n → g ≠ g' → CB (Go.Proofs.Ytphjffbldhhdiaa.putL g' w o vs) g t n
 | [],_,_,h,_=>h
 | v :: vs,_,_,h,hne=>CB.putL_far (vs:=vs) (h.far hne v) hne
theorem cell_putL:∀ {vs:List Value} {w:World} {o:Nat} {x:Addr},(x.block ≠ g ∨ x.off < o ∨ o + vs.length ≤ x.off) → (putL g w o vs).cell? x = w.cell? x
 | [],_,_,_,_=>rfl
 | v :: vs,w,o,x,h=>by
  have hne:(⟨g,o,none⟩:Addr) ≠ x:=fun e=>by
   rw [← e,List.length_cons] at h
   simp at h
   omega
  rw [Go.Proofs.Ytphjffbldhhdiaa.putL,cell_putL (by rw [List.length_cons] at h; omega),World.cell?_setCell_other _ _ _ _ hne]
theorem putL_at:∀ {vs:List Value} {w:World} {o:Nat},(∀ i,i < vs.length → (w.cell? ⟨g,o + i,none⟩).isSome = true) → ∀ i (h:i < vs.length),(putL g w o vs).cell? ⟨g,o + i,none⟩ = some vs[i]
 | v :: vs,w,o,hs,0,_=>by
  rw [Go.Proofs.Ytphjffbldhhdiaa.putL,cell_putL (.inr (.inl (by show o + 0 < o + 1; omega)))]
  exact World.cell?_setCell_same' _ _ _ (hs 0 (by simp))
 | v :: vs,w,o,hs,i + 1,h=>by
  have hne:∀ j,(⟨g,o,none⟩:Addr) ≠ ⟨g,o + 1 + j,none⟩:=fun j e=>by
   injection e with _ e
   omega
  have h1:=putL_at (vs:=vs) (w:=w.setCell ⟨g,o,none⟩ v) (o:=o + 1) (fun j hj=>by
   rw [World.cell?_setCell_other _ _ _ _ (hne j)]
   have:=hs (j + 1) (by rw [List.length_cons]; omega)
   rwa [show o + (j + 1) = o + 1 + j from by omega] at this) i (by simpa using h)
  rw [Go.Proofs.Ytphjffbldhhdiaa.putL,show o + (i + 1) = o + 1 + i from by omega]
  exact h1
theorem CB.at (h:CB w g t n) (hn:o + vs.length ≤ n) {i:Nat} (hi:i < vs.length):(Go.Proofs.Ytphjffbldhhdiaa.putL g w o vs).cell? ⟨g,o + i,none⟩ = Option.some vs[i]:=putL_at (fun i hi=>h.there (by omega)) i hi
theorem IntV.putL:∀ {vs:List Value} {w:World} {o:Nat},CB w g t n → (∀ u ∈ vs,NoU u) → IntV w v z → IntV (Go.Proofs.Ytphjffbldhhdiaa.putL g w o vs) v z
 | [],_,_,_,_,h=>h
 | x :: vs,_,o,hb,hu,h=>IntV.putL (vs:=vs) (hb.set1 o (hu x (List.mem_cons_self ..))) (fun u hx=>hu u (List.mem_cons_of_mem _ hx)) (h.setX (hb.nodig o) x)
theorem FracV.putL:∀ {vs:List Value} {w:World} {o:Nat},CB w g t n → (∀ u ∈ vs,NoU u) → FracV w v q → FracV (Go.Proofs.Ytphjffbldhhdiaa.putL g w o vs) v q
 | [],_,_,_,_,h=>h
 | x :: vs,_,o,hb,hu,h=>FracV.putL (vs:=vs) (hb.set1 o (hu x (List.mem_cons_self ..))) (fun u hx=>hu u (List.mem_cons_of_mem _ hx)) (h.setX (hb.nodig o) x)
theorem IAt.putL (h:IAt w g' o' z) (hb:CB w g t n) (hu:∀ u ∈ vs,NoU u) (hne:g' ≠ g ∨ o' + 2 ≤ o ∨ o + vs.length ≤ o'):IAt (Go.Proofs.Ytphjffbldhhdiaa.putL g w o vs) g' o' z:=by
 obtain ⟨n,a,l,k,h0,h1,h2⟩:=h
 exact ⟨n,a,l,k,(cell_putL (x:=⟨g',o',none⟩) (by show g' ≠ g ∨ o' < o ∨ _ ≤ o'; omega)).trans h0,(cell_putL (x:=⟨g',o' + 1,none⟩) (by show g' ≠ g ∨ o' + 1 < o ∨ _ ≤ o' + 1; omega)).trans h1,h2.putL hb hu⟩
theorem FAt.putL (h:FAt w g' o' q) (hb:CB w g t n) (hu:∀ u ∈ vs,NoU u) (hne:g' ≠ g ∨ o' + 4 ≤ o ∨ o + vs.length ≤ o'):FAt (Go.Proofs.Ytphjffbldhhdiaa.putL g w o vs) g' o' q:=by
 obtain ⟨n,a,l,k,m,b,i,j,h0,h1,h2,h3,h4⟩:=h
 exact ⟨n,a,l,k,m,b,i,j,(cell_putL (x:=⟨g',o',none⟩) (by show g' ≠ g ∨ o' < o ∨ _ ≤ o'; omega)).trans h0,(cell_putL (x:=⟨g',o' + 1,none⟩) (by show g' ≠ g ∨ o' + 1 < o ∨ _ ≤ o' + 1; omega)).trans h1,
  (cell_putL (x:=⟨g',o' + 2,none⟩) (by show g' ≠ g ∨ o' + 2 < o ∨ _ ≤ o' + 2; omega)).trans h2,(cell_putL (x:=⟨g',o' + 3,none⟩) (by show g' ≠ g ∨ o' + 3 < o ∨ _ ≤ o' + 3; omega)).trans h3,h4.putL hb hu⟩
theorem below_putL:∀ {vs:List Value} {w:World} {o:Nat},Below B w0 w → B ≤ g → Below B w0 (putL g w o vs)
 | [],_,_,h,_=>h
 | v :: vs,_,_,h,hg=>below_putL (vs:=vs) (h.setCell hg v) hg
theorem size_putL:∀ {vs:List Value} {w:World} {o:Nat},(putL g w o vs).heap.size = w.heap.size
 | [],_,_=>rfl
 | v :: vs,w,o=>by
  rw [Go.Proofs.Ytphjffbldhhdiaa.putL,size_putL]
  simp [World.setCell]
end
def BAt (w:World) (g o:Nat) (b:Option Int):Prop:=∃ (ok:Bool) (z:Int),w.cell? ⟨g,o,none⟩ = some (.bool ok) ∧ IAt w g (o + 1) z ∧ b = if ok = true then some z else none
section
variable {w w':World} {g g' o o' n B:Nat} {t:TypeId} {b:Option Int} {vs:List Value}
theorem BAt.below (h:BAt w g o b) (hb:Below B w w') (hB:w.heap.size ≤ B):BAt w' g o b:=by
 obtain ⟨ok,z,h0,h1,h2⟩:=h
 exact ⟨ok,z,cellB h0 hb hB,h1.below hb hB,h2⟩
theorem BAt.putL (h:BAt w g' o' b) (hb:CB w g t n) (hu:∀ u ∈ vs,NoU u) (hne:g' ≠ g ∨ o' + 3 ≤ o ∨ o + vs.length ≤ o'):BAt (Go.Proofs.Ytphjffbldhhdiaa.putL g w o vs) g' o' b:=by
 obtain ⟨ok,z,h0,h1,h2⟩:=h
 exact ⟨ok,z,(cell_putL (x:=⟨g',o',none⟩) (by show g' ≠ g ∨ o' < o ∨ _ ≤ o'; omega)).trans h0,h1.putL hb hu (by omega),h2⟩
theorem IAt.put_at {z:Int} {m:Bool} {a:Option Addr} {l k:Nat} (hb:CB w g t n) (ho:o + 2 ≤ n) (h:IntV w (.agg #[.bool m,.slice a l k]) z):IAt (Go.Proofs.Ytphjffbldhhdiaa.putL g w o [.bool m,.slice a l k]) g o z:=by
 have hu:∀ u ∈ [Value.bool m,.slice a l k],NoU u:=fun u hu=>by
  simp only [List.mem_cons,List.not_mem_nil,or_false] at hu
  rcases hu with rfl | rfl
  ·exact NoU.bool _
  ·exact NoU.slice _ _ _
 exact ⟨m,a,l,k,hb.at (vs:=[.bool m,.slice a l k]) (o:=o) (i:=0) ho (by simp),hb.at (vs:=[.bool m,.slice a l k]) (o:=o) (i:=1) ho (by simp),h.putL hb hu⟩
theorem bound_calm (ok m:Bool) (a:Option Addr) (l k:Nat):∀ u ∈ [Value.bool ok,.bool m,.slice a l k],NoU u:=fun u hu=>by
 simp only [List.mem_cons,List.not_mem_nil,or_false] at hu
 rcases hu with rfl | rfl | rfl
 ·exact NoU.bool _
 ·exact NoU.bool _
 ·exact NoU.slice _ _ _
theorem BAt.put_at {z:Int} {ok m:Bool} {a:Option Addr} {l k:Nat} (hb:CB w g t n) (ho:o + 3 ≤ n) (h:IntV w (.agg #[.bool m,.slice a l k]) z):BAt (Go.Proofs.Ytphjffbldhhdiaa.putL g w o [.bool ok,.bool m,.slice a l k]) g o (if ok = true then some z else none):=
 ⟨ok,z,hb.at (vs:=[.bool ok,.bool m,.slice a l k]) (o:=o) (i:=0) ho (by simp),⟨m,a,l,k,hb.at (vs:=[.bool ok,.bool m,.slice a l k]) (o:=o) (i:=1) ho (by simp),hb.at (vs:=[.bool ok,.bool m,.slice a l k]) (o:=o) (i:=2) ho (by simp),h.putL hb (bound_calm _ _ _ _ _)⟩,rfl⟩
end
end Go.Proofs.Ytphjffbldhhdiaa
