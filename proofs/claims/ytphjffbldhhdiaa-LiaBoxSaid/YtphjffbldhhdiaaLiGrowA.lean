/- Appends of cells that are no integers: no integer lies in a block that grows. -/
import Derived.Test.YtphjffbldhhdiaaSxLayM
namespace Go.Proofs.Ytphjffbldhhdiaa
open Go.RowKit

def CalmA (w:World) (g:Nat):Prop:=∀ i k z,w.cell? ⟨g,i,none⟩ ≠ some (.int k z)
def NoA (u:Value):Prop:=∀ k z,u ≠ .int k z
theorem NoA.bool (b:Bool):NoA (.bool b):=fun _ _ e=>by cases e
theorem NoA.slice (a:Option Addr) (l k:Nat):NoA (.slice a l k):=fun _ _ e=>by cases e
theorem CalmA.of {w:World} {g:Nat} {t:TypeId} {cs:Array Value} (h:Blk w g t cs) (hu:∀ u,u ∈ cs → NoA u):CalmA w g:=fun i k z e=>by
 rw [h.cell] at e
 exact hu _ (Array.mem_of_getElem? e) k z rfl
theorem CalmA.blk {w:World} {g:Nat} {t:TypeId} {cs:Array Value} (h:Blk w g t cs) (hc:CalmA w g):∀ u,u ∈ cs → NoA u:=fun u hu k z e=>by
 subst e
 obtain ⟨i,hi⟩:=Array.mem_iff_getElem?.1 hu
 exact hc i k z (by rw [h.cell,hi])
theorem CalmA.below {w w':World} {g:Nat} (h:CalmA w g) (hb:Below w.heap.size w w') (hg:g < w.heap.size):CalmA w' g:=fun i k z e=>by
 have h1:w'.cell? ⟨g,i,none⟩ = w.cell? ⟨g,i,none⟩:=hb.cell hg
 rw [h1] at e
 exact h i k z e
section
variable {P:Program} (w:World)
theorem run_append_calmA (base:Nat) (t ty e:TypeId) (i:TypeInfo) (z:Value) (size bytes:Nat) (ht:P.underlying t = some (.slice e)) (hi:P.info? e = some i) (hz:i.zero = some z)
  (hsize:i.size = size) (hby:i.bytes = bytes) (hzs:z.cells.size = size) (hsz:0 < size)
  (v:Value) (n:Nat) (xs:List Value) (hown:w.ownsRow base e size v n xs)
  (ad:Addr) (m c:Nat) (news:List Value) (hl:news.length = m * size) (hnews:∀ j u,news[j]? = some u → w.cell? (ad.add j) = some u) (h1:∀ u ∈ news,u.oneCell' = true)
  (h63:n + m ≤ maxLen) (hbytes:(n + m) * bytes ≤ 140737488355328) (hbase:base ≤ w.heap.size)
  (hcv:∀ g,v.ownBlock = some g → CalmA w g) (hcn:∀ u ∈ news,NoA u) (hcz:∀ u ∈ z.cells,NoA u) :
  ∃ v' w',(Builtin.append_ #[t,t] ty #[v,.slice (some ad) m c]).run P w = .ok v' w' ∧ w'.ownsRow base e size v' (n + m) (xs ++ news) ∧ w.grownBy w' v.ownBlock ∧ (v'.ownBlock = v.ownBlock ∨ v'.ownBlock = some w.heap.size) ∧ ∀ g,v'.ownBlock = some g → CalmA w' g:=by
 obtain ⟨v',w',hr,h2,h3,h4,h5⟩:=run_append_own_at (P:=P) w base t ty e i z size bytes ht hi hz hsize hby hzs hsz v n xs hown ad m c news hl hnews h1 h63 hbytes hbase
 refine ⟨v',w',hr,h2,h3,h5,?_⟩
 subst hsize
 have hmax:n + m ≤ 9223372036854775807:=by simp only [maxLen] at h63; omega
 have hnew:∀ (W:World) (ys:List Value) (k:Nat),(∀ u ∈ ys,NoA u) → CalmA (W.alloc (.cells (ys.toArray ++ news.toArray ++ Builtin.zeroCells z.cells k) e)) W.heap.size:=fun W ys k hy=>by
  refine CalmA.of (Blk.new W e _) (fun u hu=>?_)
  rw [Array.mem_append,Array.mem_append] at hu
  rcases hu with (hu | hu) | hu
  ·exact hy u (by simpa using hu)
  ·exact hcn u (by simpa using hu)
  ·exact hcz u (mem_zeroCells (by omega) hu)
 rcases hown.2 with ⟨rfl,rfl⟩ | ⟨g,cap,cur,rfl,hbg,hg,hnc,hcm,hcs,htake⟩
 ·by_cases hm:m = 0
  ·rw [h4.2 ⟨rfl,hm⟩]
   intro g hg
   cases hg
  ·have hr2:=run_append_nil (P:=P) w t ty e i z ht hi hz ad m c news hl hnews (by omega) (by omega) (by rw [hby]; have hb:=hbytes; simp only [Nat.zero_add] at hb; omega)
   rw [hr] at hr2
   injection hr2 with e1 e2
   subst e1 e2
   intro g hg
   obtain rfl:=Option.some.inj hg
   have:=hnew w.drew [] (grownCap w m 0 e - m) (fun u hu=>by cases hu)
   simpa using this
 ·have hxs:∀ u ∈ xs,NoA u:=fun u hu=>by
   rw [← htake] at hu
   have hm:=List.mem_of_mem_take hu
   exact CalmA.blk (t:=e) (cs:=cur) hg (hcv g rfl) u (by simpa using hm)
  by_cases hroom:n + m ≤ cap
  ·have hfit:n * i.size + news.length ≤ cur.size:=by rw [hl,hcs,← Nat.add_mul]; exact Nat.mul_le_mul_right _ hroom
   have hr2:=run_append_room (P:=P) w t ty e i ht hi g n cap cur hg ad m c news hl hnews h1 hroom hfit
   rw [hr] at hr2
   injection hr2 with e1 e2
   subst e1 e2
   intro g' hg'
   obtain rfl:=Option.some.inj hg'
   refine CalmA.of (t:=e) (setRow_heap w g cur _ e _ hg) (fun u hu=>?_)
   have hcur:=CalmA.blk (t:=e) (cs:=cur) hg (hcv g rfl)
   simp only [List.mem_toArray,List.mem_append] at hu
   rcases hu with (hu | hu) | hu
   ·exact hcur u (by simpa using List.mem_of_mem_take hu)
   ·exact hcn u hu
   ·exact hcur u (by simpa using List.mem_of_mem_drop hu)
  ·have holds:∀ j u,xs[j]? = some u → w.cell? ((⟨g,0,none⟩:Addr).add j) = some u:=hown.cells (g:=g) rfl
   have hr2:=run_append_grow (P:=P) w t ty e i z ht hi hz ⟨g,0,none⟩ n cap xs hown.1 holds ad m c news hl hnews (by omega) (by omega) (growslice_fits (by omega) (by rw [hby]; exact hbytes))
   rw [hr] at hr2
   injection hr2 with e1 e2
   subst e1 e2
   intro g' hg'
   obtain rfl:=Option.some.inj hg'
   exact hnew w.drew xs (grownCap w (n + m) cap e - (n + m)) hxs

theorem wpList_append_calmA {ops:Array Oper} {rest:List Oper} {o:Oper} {a:Act} {Q:Exit → Act → World → Prop} (hgd:o.guard = none) (s x:Operand) (t:TypeId)
  (ho:o.op = .call { callee:=.builtin .append,args:=#[s,x],argTypes:=#[t,t] })
  (base:Nat) (e:TypeId) (i:TypeInfo) (z:Value) (size bytes:Nat) (ht:P.underlying t = some (.slice e)) (hi:P.info? e = some i) (hz:i.zero = some z)
  (hsize:i.size = size) (hby:i.bytes = bytes) (hzs:z.cells.size = size) (hsz:0 < size)
  (v:Value) (n:Nat) (xs:List Value) (hs:a.eval s = v) (hown:w.ownsRow base e size v n xs)
  (ad:Addr) (m c:Nat) (news:List Value) (hx:a.eval x = .slice (some ad) m c) (hl:news.length = m * size) (hnews:∀ j u,news[j]? = some u → w.cell? (ad.add j) = some u) (h1:∀ u ∈ news,u.oneCell' = true)
  (h63:n + m ≤ maxLen) (hbytes:(n + m) * bytes ≤ 140737488355328) (hbase:base ≤ w.heap.size)
  (hcv:∀ g,v.ownBlock = some g → CalmA w g) (hcn:∀ u ∈ news,NoA u) (hcz:∀ u ∈ z.cells,NoA u)
  (h:∀ v' w',w'.ownsRow base e size v' (n + m) (xs ++ news) → w.grownBy w' v.ownBlock → (v'.ownBlock = v.ownBlock ∨ v'.ownBlock = some w.heap.size) → (∀ g,v'.ownBlock = some g → CalmA w' g) → wpList P ops Q rest (a.put o.dst v') w'):wpList P ops Q (o :: rest) a w:=by
 refine wpList_plain hgd fun K hK=>?_
 obtain ⟨v',w',hr,h2,h3,h4,h5⟩:=run_append_calmA (P:=P) w base t o.type e i z size bytes ht hi hz hsize hby hzs hsz v n xs hown ad m c news hl hnews h1 h63 hbytes hbase hcv hcn hcz
 unfold Oper.wp execOp
 simp only [ho,resolve,invoke,builtin,Sem.run_bind,Sem.run_pure,Result.andThen_ok,List.map_toArray,List.map_cons,List.map_nil,hs,hx,hr]
 exact hK _ _ (h v' w' h2 h3 h4 h5)
end
end Go.Proofs.Ytphjffbldhhdiaa
