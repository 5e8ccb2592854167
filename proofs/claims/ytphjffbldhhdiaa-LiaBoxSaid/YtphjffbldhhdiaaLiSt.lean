/- Where the search stands, in memory. -/
import Derived.Test.YtphjffbldhhdiaaLiMake
import Derived.Test.YtphjffbldhhdiaaLiSize
import Derived.Test.YtphjffbldhhdiaaSxLayM
namespace Go.Proofs.Ytphjffbldhhdiaa
open Go.RowKit

structure LSp where
 p:Nat
 gf:Nat
 gt:Nat
 gn:Nat
 vr:Value
 vk:Value
def LSp.Free (L:LSp) (g:Nat):Prop:=g ≠ L.p ∧ g ≠ L.gf ∧ g ≠ L.gt ∧ g ≠ L.gn ∧ L.vk.ownBlock ≠ some g
def RowsB (w:World) (v:Value) (S:Sys) (P:Nat → Prop):Prop:=∃ a k,v = .slice a S.m k ∧ Fit a S.m k ∧ ∃ b o,(0 < S.m → a = some ⟨b,o,none⟩) ∧ ∀ i,i < S.m → P b ∧ ∃ ra rk,w.cell? ⟨b,o + i * 5,none⟩ = some (.slice ra S.n rk) ∧ Fit ra S.n rk ∧ (0 < S.n → ∃ rb ro,ra = some ⟨rb,ro,none⟩ ∧ P rb ∧ ∀ c,c < S.n → FAt w rb (ro + c * 4) (S.A i c)) ∧ FAt w b (o + i * 5 + 1) (S.most i)
def FkAt (w:World) (g o:Nat) (k:Fk):Prop:=w.cell? ⟨g,o,none⟩ = some (.int .i64 (k.v:Int)) ∧ IAt w g (o + 1) k.fl ∧ w.cell? ⟨g,o + 3,none⟩ = some (.bool k.up) ∧ BAt w g (o + 4) k.old
def ForksC (w:World) (N:Nat) (v:Value) (ks:List Fk):Prop:=∃ xs,w.ownsRow N 84 7 v ks.length xs ∧ (∀ g,v.ownBlock = some g → Calm w g) ∧ ∀ g,v.ownBlock = some g → ∀ i k,ks.reverse[i]? = some k → FkAt w g (i * 7) k
section
variable {w w':World} {g g' o o' n B N:Nat} {t:TypeId} {v:Value} {S:Sys} {P:Nat → Prop} {k:Fk} {ks:List Fk} {vs:List Value}
theorem RowsB.below (h:RowsB w v S P) (hb:Below B w w') (hB:w.heap.size ≤ B):RowsB w' v S P:=by
 obtain ⟨a,k,e,hf,b,o,ha,hr⟩:=h
 refine ⟨a,k,e,hf,b,o,ha,fun i hi=>?_⟩
 obtain ⟨hp,ra,rk,h1,h2,h3,h4⟩:=hr i hi
 refine ⟨hp,ra,rk,cellB h1 hb hB,h2,fun hn=>?_,h4.below hb hB⟩
 obtain ⟨rb,ro,e,hq,h5⟩:=h3 hn
 exact ⟨rb,ro,e,hq,fun c hc=>(h5 c hc).below hb hB⟩
theorem RowsB.putL (h:RowsB w v S P) (hb:CB w g t n) (hu:∀ u ∈ vs,NoU u) (hP:∀ b,P b → b ≠ g):RowsB (putL g w o vs) v S P:=by
 obtain ⟨a,k,e,hf,b,o,ha,hr⟩:=h
 refine ⟨a,k,e,hf,b,o,ha,fun i hi=>?_⟩
 obtain ⟨hp,ra,rk,h1,h2,h3,h4⟩:=hr i hi
 refine ⟨hp,ra,rk,(cell_putL (.inl (hP b hp))).trans h1,h2,fun hn=>?_,h4.putL hb hu (.inl (hP b hp))⟩
 obtain ⟨rb,ro,e,hq,h5⟩:=h3 hn
 exact ⟨rb,ro,e,hq,fun c hc=>(h5 c hc).putL hb hu (.inl (hP rb hq))⟩
theorem RowsB.mono {P':Nat → Prop} (h:RowsB w v S P) (hP:∀ b,b < w.heap.size → P b → P' b):RowsB w v S P':=by
 obtain ⟨a,k,e,hf,b,o,ha,hr⟩:=h
 refine ⟨a,k,e,hf,b,o,ha,fun i hi=>?_⟩
 obtain ⟨hp,ra,rk,h1,h2,h3,h4⟩:=hr i hi
 refine ⟨hP b h4.lt hp,ra,rk,h1,h2,fun hn=>?_,h4⟩
 obtain ⟨rb,ro,e,hq,h5⟩:=h3 hn
 exact ⟨rb,ro,e,hP rb (h5 0 hn).lt hq,h5⟩
theorem RowsB.rowsV (h:RowsB w v S P):∃ a k,v = .slice a S.m k ∧ ∃ b o,(0 < S.m → a = some ⟨b,o,none⟩) ∧ RowsV w b o S:=by
 obtain ⟨a,k,e,_,b,o,ha,hr⟩:=h
 refine ⟨a,k,e,b,o,ha,fun i hi=>?_⟩
 obtain ⟨_,ra,rk,h1,h2,h3,h4⟩:=hr i hi
 refine ⟨ra,rk,h1,h2,fun hn=>?_,h4⟩
 obtain ⟨rb,ro,e,_,h5⟩:=h3 hn
 exact ⟨rb,ro,e,h5⟩
theorem FkAt.below (h:FkAt w g o k) (hb:Below B w w') (hB:w.heap.size ≤ B):FkAt w' g o k:=⟨cellB h.1 hb hB,h.2.1.below hb hB,cellB h.2.2.1 hb hB,h.2.2.2.below hb hB⟩
theorem FkAt.putL (h:FkAt w g' o' k) (hb:CB w g t n) (hu:∀ u ∈ vs,NoU u) (hne:g' ≠ g ∨ o' + 7 ≤ o ∨ o + vs.length ≤ o'):FkAt (putL g w o vs) g' o' k:=
 ⟨(cell_putL (x:=⟨g',o',none⟩) (by show g' ≠ g ∨ o' < o ∨ _ ≤ o'; omega)).trans h.1,h.2.1.putL hb hu (by omega),(cell_putL (x:=⟨g',o' + 3,none⟩) (by show g' ≠ g ∨ o' + 3 < o ∨ _ ≤ o' + 3; omega)).trans h.2.2.1,h.2.2.2.putL hb hu (by omega)⟩
theorem ForksC.lt (h:ForksC w N v ks):∀ g,v.ownBlock = some g → N ≤ g ∧ g < w.heap.size:=by
 obtain ⟨xs,h1,_⟩:=h
 exact h1.lt
theorem ForksC.below (h:ForksC w N v ks) (hb:Below w.heap.size w w'):ForksC w' N v ks:=by
 obtain ⟨xs,h1,h2,h3⟩:=h
 exact ⟨xs,own_stays h1 (fun g hg=>hb.block g (h1.lt g hg).2),fun g hg=>(h2 g hg).below hb (h1.lt g hg).2,fun g hg i k hk=>(h3 g hg i k hk).below hb (Nat.le_refl _)⟩
theorem heap_putL {b:Nat}:∀ {vs:List Value} {w:World} {o:Nat},b ≠ g → (putL g w o vs).heap[b]? = w.heap[b]?
 | [],_,_,_=>rfl
 | x :: vs,w,o,h=>(heap_putL (vs:=vs) h).trans (Below.heap_setCell w ⟨g,o,none⟩ x b h)
theorem ForksC.putL (h:ForksC w N v ks) (hb:CB w g t n) (hu:∀ u ∈ vs,NoU u) (hne:v.ownBlock ≠ some g):ForksC (putL g w o vs) N v ks:=by
 obtain ⟨xs,h1,h2,h3⟩:=h
 have key:∀ g',v.ownBlock = some g' → g' ≠ g:=fun g' e e2=>hne (by rw [e,e2])
 refine ⟨xs,own_stays h1 (fun g' hg=>heap_putL (key g' hg)),fun g' hg i z e=>?_,fun g' hg i k hk=>(h3 g' hg i k hk).putL hb hu (.inl (key g' hg))⟩
 rw [cell_putL (.inl (key g' hg))] at e
 exact h2 g' hg i z e
end
structure LiW (N:Nat) (w:World) (S:ISys) (st:LS) (L:LSp):Prop where
 blk:Blk w L.p 80 #[.int .i64 (S.n:Int),L.vr,.slice (some ⟨L.gf,0,none⟩) S.n S.n,.slice (some ⟨L.gt,0,none⟩) S.n S.n,L.vk,.slice (some ⟨L.gn,0,none⟩) S.m S.m]
 rows:RowsB w L.vr (S.all []) L.Free
 fb:CB w L.gf 82 (S.n * 3)
 fl:∀ v,v < S.n → BAt w L.gf (v * 3) (st.floor v)
 tb:CB w L.gt 82 (S.n * 3)
 tp:∀ v,v < S.n → BAt w L.gt (v * 3) (st.top v)
 nb:CB w L.gn 3 S.m
 nd:∀ i,i < S.m → w.cell? ⟨L.gn,i,none⟩ = some (.int .i64 (st.need i:Int))
 fk:ForksC w N L.vk st.forks
 ft:L.gf ≠ L.gt
 le:N ≤ L.p ∧ N ≤ L.gf ∧ N ≤ L.gt ∧ N ≤ L.gn
 kb:∀ g,L.vk.ownBlock = some g → g ≠ L.p ∧ g ≠ L.gf ∧ g ≠ L.gt ∧ g ≠ L.gn
 apart:L.p ≠ L.gf ∧ L.p ≠ L.gt ∧ L.p ≠ L.gn ∧ L.gn ≠ L.gf ∧ L.gn ≠ L.gt
section
variable {w w':World} {S:ISys} {st:LS} {L:LSp} {N:Nat}
theorem LiW.below (h:LiW N w S st L) (hb:Below w.heap.size w w'):LiW N w' S st L where
 blk:=h.blk.below hb h.blk.lt
 rows:=h.rows.below hb (Nat.le_refl _)
 fb:=h.fb.below hb h.fb.lt
 fl:=fun v hv=>(h.fl v hv).below hb (Nat.le_refl _)
 tb:=h.tb.below hb h.tb.lt
 tp:=fun v hv=>(h.tp v hv).below hb (Nat.le_refl _)
 nb:=h.nb.below hb h.nb.lt
 nd:=fun i hi=>cellB (h.nd i hi) hb (Nat.le_refl _)
 fk:=h.fk.below hb
 ft:=h.ft
 le:=h.le
 kb:=h.kb
 apart:=h.apart
theorem LiW.free (h:LiW N w S st L) {g:Nat} (hg:g = L.p ∨ g = L.gf ∨ g = L.gt ∨ g = L.gn):(∀ b,L.Free b → b ≠ g) ∧ L.vk.ownBlock ≠ some g:=by
 refine ⟨fun b hb e=>?_,fun e=>?_⟩
 ·subst e
  obtain ⟨h1,h2,h3,h4,_⟩:=hb
  omega
 ·obtain ⟨h1,h2,h3,h4⟩:=h.kb g e
  omega
theorem blk_putL {w:World} {g g' o:Nat} {t:TypeId} {cs:Array Value} {vs:List Value} (h:Blk w g t cs) (hne:g ≠ g'):Blk (putL g' w o vs) g t cs:=by
 unfold Blk at h ⊢
 rw [heap_putL hne]
 exact h
theorem LiW.setNeed (h:LiW N w S st L) {j:Nat} (hj:j < S.m) (k:Nat):LiW N (putL L.gn w j [.int .i64 (k:Int)]) S { st with need:=put st.need j k } L:=by
 obtain ⟨a1,a2,a3,a4,a5⟩:=h.apart
 obtain ⟨f1,f2⟩:=h.free (g:=L.gn) (.inr (.inr (.inr rfl)))
 have hu:∀ u ∈ [Value.int .i64 (k:Int)],NoU u:=fun u hu=>by
  simp only [List.mem_cons,List.not_mem_nil,or_false] at hu
  rw [hu]
  exact NoU.i64 _
 exact {
  blk:=blk_putL h.blk a3
  rows:=h.rows.putL h.nb hu f1
  fb:=h.fb.putL_far (fun e=>a4 e.symm)
  fl:=fun v hv=>(h.fl v hv).putL h.nb hu (.inl (fun e=>a4 e.symm))
  tb:=h.tb.putL_far (fun e=>a5 e.symm)
  tp:=fun v hv=>(h.tp v hv).putL h.nb hu (.inl (fun e=>a5 e.symm))
  nb:=h.nb.putL hu
  nd:=fun i hi=>by
   show _ = some (Value.int .i64 ((put st.need j k i:Nat):Int))
   by_cases he:i = j
   ·subst he
    rw [put_at]
    exact h.nb.at (vs:=[.int .i64 (k:Int)]) (o:=i) (i:=0) (by show i + 1 ≤ S.m; omega) (by simp)
   ·rw [put_else _ _ he]
    exact (cell_putL (x:=⟨L.gn,i,none⟩) (by show L.gn ≠ L.gn ∨ i < j ∨ j + 1 ≤ i; omega)).trans (h.nd i hi)
  fk:=h.fk.putL h.nb hu f2
  ft:=h.ft
  le:=h.le
  kb:=h.kb
  apart:=h.apart }
theorem LiW.setTop (h:LiW N w S st L) {v:Nat} (hv:v < S.n) {ok m:Bool} {a:Option Addr} {l k:Nat} {z:Int} (hz:IntV w (.agg #[.bool m,.slice a l k]) z):LiW N (putL L.gt w (v * 3) [.bool ok,.bool m,.slice a l k]) S { st with top:=put st.top v (if ok = true then some z else none) } L:=by
 obtain ⟨a1,a2,a3,a4,a5⟩:=h.apart
 obtain ⟨f1,f2⟩:=h.free (g:=L.gt) (.inr (.inr (.inl rfl)))
 have hu:=bound_calm ok m a l k
 exact {
  blk:=blk_putL h.blk a2
  rows:=h.rows.putL h.tb hu f1
  fb:=h.fb.putL_far h.ft
  fl:=fun v' hv'=>(h.fl v' hv').putL h.tb hu (.inl h.ft)
  tb:=h.tb.putL hu
  tp:=fun v' hv'=>by
   show BAt _ _ _ (put st.top v _ v')
   by_cases he:v' = v
   ·subst he
    rw [put_at]
    exact BAt.put_at h.tb (by omega) hz
   ·rw [put_else _ _ he]
    exact (h.tp v' hv').putL h.tb hu (.inr (by show v' * 3 + 3 ≤ v * 3 ∨ v * 3 + 3 ≤ v' * 3; omega))
  nb:=h.nb.putL_far a5
  nd:=fun i hi=>(cell_putL (.inl a5)).trans (h.nd i hi)
  fk:=h.fk.putL h.tb hu f2
  ft:=h.ft
  le:=h.le
  kb:=h.kb
  apart:=h.apart }
theorem LiW.setFloor (h:LiW N w S st L) {v:Nat} (hv:v < S.n) {ok m:Bool} {a:Option Addr} {l k:Nat} {z:Int} (hz:IntV w (.agg #[.bool m,.slice a l k]) z):LiW N (putL L.gf w (v * 3) [.bool ok,.bool m,.slice a l k]) S { st with floor:=put st.floor v (if ok = true then some z else none) } L:=by
 obtain ⟨a1,a2,a3,a4,a5⟩:=h.apart
 obtain ⟨f1,f2⟩:=h.free (g:=L.gf) (.inr (.inl rfl))
 have hu:=bound_calm ok m a l k
 exact {
  blk:=blk_putL h.blk a1
  rows:=h.rows.putL h.fb hu f1
  fb:=h.fb.putL hu
  fl:=fun v' hv'=>by
   show BAt _ _ _ (put st.floor v _ v')
   by_cases he:v' = v
   ·subst he
    rw [put_at]
    exact BAt.put_at h.fb (by omega) hz
   ·rw [put_else _ _ he]
    exact (h.fl v' hv').putL h.fb hu (.inr (by show v' * 3 + 3 ≤ v * 3 ∨ v * 3 + 3 ≤ v' * 3; omega))
  tb:=h.tb.putL_far (fun e=>h.ft e.symm)
  tp:=fun v' hv'=>(h.tp v' hv').putL h.fb hu (.inl (fun e=>h.ft e.symm))
  nb:=h.nb.putL_far a4
  nd:=fun i hi=>(cell_putL (.inl a4)).trans (h.nd i hi)
  fk:=h.fk.putL h.fb hu f2
  ft:=h.ft
  le:=h.le
  kb:=h.kb
  apart:=h.apart }
end
end Go.Proofs.Ytphjffbldhhdiaa
