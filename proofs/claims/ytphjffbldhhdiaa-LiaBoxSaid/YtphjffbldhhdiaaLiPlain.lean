/- The search for integers: plain. -/
import Derived.Test.YtphjffbldhhdiaaSxSum
namespace Go.Proofs.Ytphjffbldhhdiaa

structure ISys where
 n:Nat
 m:Nat
 A:Nat → Nat → Int
 most:Nat → Int
structure Fk where
 v:Nat
 fl:Int
 up:Bool
 old:Option Int
structure LS where
 floor:Nat → Option Int
 top:Nat → Option Int
 forks:List Fk
 need:Nat → Nat
def optL {A:Type}:Option A → List A
 | some a=>[a]
 | none=>[]
def bRows (f t:Nat → Option Int):Nat → List (Nat × Int × Int)
 | 0=>[]
 | v + 1=>bRows f t v ++ (optL ((t v).map fun b=>(v,(1:Int),b)) ++ optL ((f v).map fun b=>(v,(-1:Int),-b)))
def ISys.all (S:ISys) (l:List (Nat × Int × Int)):Sys where
 n:=S.n
 m:=S.m + l.length
 A:=fun i c=>if c < S.n then (if i < S.m then ((S.A i c:Int):Rat) else match l[i - S.m]? with | some r=>(if r.1 = c then ((r.2.1:Int):Rat) else 0) | none=>0) else 0
 most:=fun i=>if i < S.m then ((S.most i:Int):Rat) else match l[i - S.m]? with | some r=>((r.2.2:Int):Rat) | none=>0
def ISys.Row (S:ISys) (p:Nat → Int) (i:Nat):Prop:=(sumR S.n fun c=>((S.A i c:Int):Rat) * ((p c:Int):Rat)) ≤ ((S.most i:Int):Rat)
def inB (n:Nat) (f t:Nat → Option Int) (p:Nat → Int):Prop:=∀ v,v < n → (∀ b,f v = some b → b ≤ p v) ∧ ∀ b,t v = some b → p v ≤ b
theorem mem_optL {A:Type} {o:Option A} {a:A}:a ∈ optL o ↔ o = some a:=by
 cases o with
 | none=>simp [optL]
 | some b=>simp [optL]; exact eq_comm
theorem mem_bRows {f t:Nat → Option Int} {r:Nat × Int × Int}:∀ {n:Nat},r ∈ bRows f t n ↔ ∃ v,v < n ∧ ((∃ b,t v = some b ∧ r = (v,1,b)) ∨ ∃ b,f v = some b ∧ r = (v,-1,-b))
 | 0=>by simp [bRows]
 | n + 1=>by
  rw [bRows,List.mem_append,List.mem_append,mem_optL,mem_optL,mem_bRows]
  constructor
  ·rintro (⟨v,h1,h2⟩ | h | h)
   ·exact ⟨v,by omega,h2⟩
   ·obtain ⟨b,h1,h2⟩:=Option.map_eq_some_iff.1 h
    exact ⟨n,by omega,.inl ⟨b,h1,h2.symm⟩⟩
   ·obtain ⟨b,h1,h2⟩:=Option.map_eq_some_iff.1 h
    exact ⟨n,by omega,.inr ⟨b,h1,h2.symm⟩⟩
  ·rintro ⟨v,h1,h2⟩
   by_cases he:v = n
   ·subst he
    rcases h2 with ⟨b,h3,h4⟩ | ⟨b,h3,h4⟩
    ·exact .inr (.inl (by rw [h3,h4]; rfl))
    ·exact .inr (.inr (by rw [h3,h4]; rfl))
   ·exact .inl ⟨v,by omega,h2⟩
section
variable {S:ISys} {l:List (Nat × Int × Int)} {x:Nat → Rat}
theorem all_sum {i:Nat} (hi:i < S.m):(sumR S.n fun c=>(S.all l).A i c * x c) = sumR S.n fun c=>((S.A i c:Int):Rat) * x c:=
 sumR_congr fun c hc=>by
  show (if c < S.n then (if i < S.m then ((S.A i c:Int):Rat) else _) else 0) * x c = _
  rw [if_pos hc,if_pos hi]
theorem all_one {j:Nat} (hj:j < l.length) (hv:l[j].1 < S.n):(sumR S.n fun c=>(S.all l).A (S.m + j) c * x c) = ((l[j].2.1:Int):Rat) * x l[j].1:=by
 have h:∀ c,c < S.n → (S.all l).A (S.m + j) c = if l[j].1 = c then ((l[j].2.1:Int):Rat) else 0:=fun c hc=>by
  show (if c < S.n then (if S.m + j < S.m then _ else match l[S.m + j - S.m]? with | some r=>(if r.1 = c then ((r.2.1:Int):Rat) else 0) | none=>0) else 0) = _
  rw [if_pos hc,if_neg (by omega),show S.m + j - S.m = j from by omega,List.getElem?_eq_getElem hj]
 rw [sumR_one hv (fun c hc hne=>by rw [h c hc,if_neg (fun e=>hne e.symm)]; grind),h _ hv,if_pos rfl]
theorem all_most {i:Nat} (hi:i < S.m):(S.all l).most i = ((S.most i:Int):Rat):=if_pos hi
theorem all_most1 {j:Nat} (hj:j < l.length):(S.all l).most (S.m + j) = ((l[j].2.2:Int):Rat):=by
 show (if S.m + j < S.m then _ else match l[S.m + j - S.m]? with | some r=>((r.2.2:Int):Rat) | none=>0) = _
 rw [if_neg (by omega),show S.m + j - S.m = j from by omega,List.getElem?_eq_getElem hj]
end
theorem never_some {S:Sys} {y x:Nat → Rat} (h:S.Never y) (hx:∀ i,i < S.m → y i ≠ 0 → (sumR S.n fun c=>S.A i c * x c) ≤ S.most i):False:=by
 have h1:(sumR S.m fun i=>y i * sumR S.n fun c=>S.A i c * x c) ≤ sumR S.m fun i=>y i * S.most i:=
  sumR_le fun i hi=>by
   by_cases h0:y i = 0
   ·rw [h0]; grind
   ·exact Rat.mul_le_mul_of_nonneg_left (hx i hi h0) (h.pos i hi)
 have h2:(sumR S.m fun i=>y i * sumR S.n fun c=>S.A i c * x c) = 0:=by
  rw [show (fun i=>y i * sumR S.n fun c=>S.A i c * x c) = fun i=>sumR S.n fun c=>x c * (y i * S.A i c) from funext fun i=>by
   rw [← sumR_mul]
   exact sumR_congr fun c _=>by grind]
  rw [← sumR_swap]
  rw [show (fun c=>sumR S.m fun i=>x c * (y i * S.A i c)) = fun c=>x c * sumR S.m fun i=>y i * S.A i c from funext fun c=>sumR_mul _ _ _]
  rw [sumR_congr (g:=fun _=>0) fun c hc=>by rw [h.zero c hc]; grind,sumR_zero]
 have h3:=h.neg
 rw [h2] at h1
 grind
theorem cast_le {a b:Int}:((a:Int):Rat) ≤ ((b:Int):Rat) ↔ a ≤ b:=Rat.intCast_le_intCast
theorem box_rows {S:ISys} {f t:Nat → Option Int} {p:Nat → Int} (hp:inB S.n f t p) {j:Nat} (hj:j < (bRows f t S.n).length):(sumR S.n fun c=>(S.all (bRows f t S.n)).A (S.m + j) c * ((p c:Int):Rat)) ≤ (S.all (bRows f t S.n)).most (S.m + j):=by
 obtain ⟨v,hv,h⟩:=mem_bRows.1 (List.getElem_mem hj)
 rw [all_most1 hj]
 rcases h with ⟨b,h1,h2⟩ | ⟨b,h1,h2⟩
 ·have e1:(bRows f t S.n)[j].1 = v:=by rw [h2]
  rw [all_one hj (by rw [e1]; exact hv),h2]
  have:=cast_le.2 ((hp v hv).2 b h1)
  show ((1:Int):Rat) * ((p v:Int):Rat) ≤ _
  rw [show ((1:Int):Rat) = 1 from rfl]
  grind
 ·have e1:(bRows f t S.n)[j].1 = v:=by rw [h2]
  rw [all_one hj (by rw [e1]; exact hv),h2]
  have:=cast_le.2 ((hp v hv).1 b h1)
  show (((-1:Int):Int):Rat) * ((p v:Int):Rat) ≤ ((-b:Int):Rat)
  rw [show (((-1:Int):Int):Rat) = -1 from rfl,Rat.intCast_neg]
  grind
theorem box_of {S:ISys} {f t:Nat → Option Int} {x:Nat → Rat} (h:(S.all (bRows f t S.n)).Fits x) {v:Nat} (hv:v < S.n):(∀ b,f v = some b → ((b:Int):Rat) ≤ x v) ∧ ∀ b,t v = some b → x v ≤ ((b:Int):Rat):=by
 have key:∀ r,r ∈ bRows f t S.n → r.1 < S.n → ((r.2.1:Int):Rat) * x r.1 ≤ ((r.2.2:Int):Rat):=fun r hr hr1=>by
  obtain ⟨j,hj,rfl⟩:=List.mem_iff_getElem.1 hr
  have h1:=h (S.m + j) (by show S.m + j < S.m + (bRows f t S.n).length; omega)
  rw [all_most1 hj] at h1
  exact (all_one hj hr1) ▸ h1
 refine ⟨fun b hb=>?_,fun b hb=>?_⟩
 ·have h1:(((-1:Int):Int):Rat) * x v ≤ ((-b:Int):Rat):=key (v,-1,-b) (mem_bRows.2 ⟨v,hv,.inr ⟨b,hb,rfl⟩⟩) hv
  rw [show (((-1:Int):Int):Rat) = -1 from rfl,Rat.intCast_neg] at h1
  grind
 ·have h1:((1:Int):Rat) * x v ≤ ((b:Int):Rat):=key (v,1,b) (mem_bRows.2 ⟨v,hv,.inl ⟨b,hb,rfl⟩⟩) hv
  rw [show ((1:Int):Rat) = 1 from rfl] at h1
  grind

def backF:List Fk → (Nat → Option Int) → (Nat → Option Int) → Option (List Fk × (Nat → Option Int) × (Nat → Option Int))
 | [],_,_=>none
 | k :: r,f,t=>if k.up = true then backF r (put f k.v k.old) t else some (⟨k.v,k.fl,true,f k.v⟩ :: r,put f k.v (some (k.fl + 1)),put t k.v k.old)
def Rest (n:Nat):List Fk → (Nat → Option Int) → (Nat → Option Int) → (Nat → Int) → Prop
 | [],_,_,_=>False
 | k :: r,f,t,p=>if k.up = true then Rest n r (put f k.v k.old) t p else inB n (put f k.v (some (k.fl + 1))) (put t k.v k.old) p ∨ Rest n r f (put t k.v k.old) p
theorem put_back {A:Type} (f:Nat → A) (k:Nat) (a:A):put (put f k a) k (f k) = f:=funext fun i=>by
 by_cases h:i = k
 ·subst h; rw [put_at]
 ·rw [put_else _ _ h,put_else _ _ h]
theorem rest_back {n:Nat} {p:Nat → Int}:∀ {ks:List Fk} {f t:Nat → Option Int},Rest n ks f t p → ∃ ks' f' t',backF ks f t = some (ks',f',t') ∧ (inB n f' t' p ∨ Rest n ks' f' t' p)
 | [],_,_,h=>h.elim
 | k :: r,f,t,h=>by
  unfold Rest at h
  unfold backF
  by_cases hu:k.up = true
  ·rw [if_pos hu] at h ⊢
   exact rest_back h
  ·rw [if_neg hu] at h ⊢
   refine ⟨_,_,_,rfl,h.imp id (fun h=>?_)⟩
   unfold Rest
   rw [if_pos rfl]
   show Rest n r (put (put f k.v (some (k.fl + 1))) k.v (f k.v)) (put t k.v k.old) p
   rw [put_back]
   exact h
def bumped (m:Nat) (y:Nat → Rat) (need:Nat → Nat):Nat → Nat:=fun i=>if i < m ∧ y i ≠ 0 then need i + 1 else need i
def LS.sys (S:ISys) (st:LS):Sys:=S.all (bRows st.floor st.top S.n)
def Never' (S:Sys) (y:Nat → Rat):Prop:=∃ u l0,Last S u ∧ First S.m (S.Over u) u.told l0 ∧ (∀ c,c < S.n → ¬S.Free u l0 c) ∧ y = whyK S u l0 S.n
def Found' (S:Sys) (x:Nat → Rat):Prop:=∃ u,Last S u ∧ (∀ l,l < S.m → ¬S.Over u l) ∧ x = u.val
def LStep (S:ISys) (st st':LS):Prop:=
 (∃ y ks f t,Never' (st.sys S) y ∧ backF st.forks st.floor st.top = some (ks,f,t) ∧ st' = ⟨f,t,ks,bumped S.m y st.need⟩) ∨
 (∃ x v,Found' (st.sys S) x ∧ v < S.n ∧ (x v).den ≠ 1 ∧ (∀ c,c < v → (x c).den = 1) ∧ st' = ⟨st.floor,put st.top v (some (x v).floor),⟨v,(x v).floor,false,st.top v⟩ :: st.forks,st.need⟩)
inductive Fin' where
 | sat (x:Nat → Int)
 | unsat (need:Nat → Nat)
def LFin (S:ISys) (st:LS):Fin' → Prop
 | .sat z=>∃ x,Found' (st.sys S) x ∧ (∀ c,c < S.n → (x c).den = 1) ∧ z = fun c=>(x c).floor
 | .unsat nd=>∃ y,Never' (st.sys S) y ∧ backF st.forks st.floor st.top = none ∧ nd = bumped S.m y st.need
def LS.first:LS:=⟨fun _=>none,fun _=>none,[],fun _=>0⟩
def LGood (S:ISys) (st:LS):Prop:=∀ p:Nat → Int,(∀ i,i < S.m → 0 < st.need i → S.Row p i) → inB S.n st.floor st.top p ∨ Rest S.n st.forks st.floor st.top p
theorem LGood.first (S:ISys):LGood S LS.first:=fun p _=>.inl fun v _=>⟨(fun b h=>by cases h),(fun b h=>by cases h)⟩
theorem Never'.never {S:Sys} {y:Nat → Rat} (h:Never' S y):S.Never y:=by
 obtain ⟨u,l0,hu,hf,hfr,rfl⟩:=h
 exact why_never hu.inv hf.1 hf.2.1 hfr
theorem Found'.fits {S:Sys} {x:Nat → Rat} (h:Found' S x):S.Fits x:=by
 obtain ⟨u,hu,hno,rfl⟩:=h
 exact hu.inv.fits hno
theorem bumped_pos {m:Nat} {y:Nat → Rat} {need:Nat → Nat} {i:Nat} (h:0 < need i):0 < bumped m y need i:=by
 unfold bumped
 split
 ·exact Nat.succ_pos _
 ·exact h
theorem bumped_new {m:Nat} {y:Nat → Rat} {need:Nat → Nat} {i:Nat} (hi:i < m) (h:y i ≠ 0):0 < bumped m y need i:=by
 unfold bumped
 rw [if_pos ⟨hi,h⟩]
 exact Nat.succ_pos _
theorem box_no {S:ISys} {st:LS} {y:Nat → Rat} {p:Nat → Int} (hy:Never' (st.sys S) y) (hr:∀ i,i < S.m → y i ≠ 0 → S.Row p i) (hb:inB S.n st.floor st.top p):False:=by
 refine never_some (x:=fun c=>((p c:Int):Rat)) hy.never (fun i hi h0=>?_)
 rcases Nat.lt_or_ge i S.m with h | h
 ·have h1:=hr i h h0
  unfold ISys.Row at h1
  show (sumR S.n fun c=>(S.all (bRows st.floor st.top S.n)).A i c * ((p c:Int):Rat)) ≤ (S.all (bRows st.floor st.top S.n)).most i
  rw [all_sum h,all_most h]
  exact h1
 ·obtain ⟨j,rfl⟩:∃ j,i = S.m + j:=⟨i - S.m,by omega⟩
  have hj:S.m + j < S.m + (bRows st.floor st.top S.n).length:=hi
  exact box_rows hb (by omega)
theorem LGood.step {S:ISys} {st st':LS} (h:LGood S st) (hs:LStep S st st'):LGood S st':=by
 rcases hs with ⟨y,ks,f,t,hy,hb,rfl⟩ | ⟨x,v,hx,hv,hd,_,rfl⟩
 ·intro p hp
  have h1:=h p (fun i hi hn=>hp i hi (bumped_pos hn))
  rcases h1 with h1 | h1
  ·exact (box_no hy (fun i hi h0=>hp i hi (bumped_new hi h0)) h1).elim
  ·obtain ⟨ks',f',t',e,h2⟩:=rest_back h1
   rw [hb] at e
   obtain ⟨rfl,rfl,rfl⟩:ks = ks' ∧ f = f' ∧ t = t':=by simpa using e
   exact h2
 ·intro p hp
  show inB S.n st.floor (put st.top v (some (x v).floor)) p ∨ Rest S.n (⟨v,(x v).floor,false,st.top v⟩ :: st.forks) st.floor (put st.top v (some (x v).floor)) p
  unfold Rest
  rw [if_neg (by simp),put_back]
  rcases h p hp with h1 | h1
  ·rcases Int.lt_or_le (x v).floor (p v) with h2 | h2
   ·refine .inr (.inl fun c hc=>⟨fun b hb=>?_,(h1 c hc).2⟩)
    by_cases he:c = v
    ·subst he
     rw [put_at] at hb
     obtain rfl:=Option.some.inj hb
     show (x c).floor + 1 ≤ p c
     omega
    ·rw [put_else _ _ he] at hb
     exact (h1 c hc).1 b hb
   ·refine .inl fun c hc=>⟨(h1 c hc).1,fun b hb=>?_⟩
    by_cases he:c = v
    ·subst he
     rw [put_at] at hb
     obtain rfl:=Option.some.inj hb
     exact h2
    ·rw [put_else _ _ he] at hb
     exact (h1 c hc).2 b hb
  ·exact .inr (.inr h1)
theorem LGood.unsat {S:ISys} {st:LS} {nd:Nat → Nat} (h:LGood S st) (hf:LFin S st (.unsat nd)) {p:Nat → Int} (hp:∀ i,i < S.m → 0 < nd i → S.Row p i):False:=by
 obtain ⟨y,hy,hb,rfl⟩:=hf
 rcases h p (fun i hi hn=>hp i hi (bumped_pos hn)) with h1 | h1
 ·exact box_no hy (fun i hi h0=>hp i hi (bumped_new hi h0)) h1
 ·obtain ⟨_,_,_,e,_⟩:=rest_back h1
  rw [hb] at e
  cases e
theorem cast_floor {q:Rat} (h:q.den = 1):((q.floor:Int):Rat) = q:=by
 have e:q = ((q.num:Int):Rat):=by
  apply Rat.ext
  ·rfl
  ·rw [h]; rfl
 rw [e,Rat.floor_intCast]
theorem LFin.sat {S:ISys} {st:LS} {z:Nat → Int} (hf:LFin S st (.sat z)):(∀ i,i < S.m → S.Row z i) ∧ inB S.n st.floor st.top z:=by
 obtain ⟨x,hx,hd,rfl⟩:=hf
 have h1:=hx.fits
 refine ⟨fun i hi=>?_,fun v hv=>⟨fun b hb=>?_,fun b hb=>?_⟩⟩
 ·have h2:=h1 i (by show i < S.m + _; omega)
  change (sumR S.n fun c=>(S.all (bRows st.floor st.top S.n)).A i c * x c) ≤ (S.all (bRows st.floor st.top S.n)).most i at h2
  rw [all_sum hi,all_most hi] at h2
  unfold ISys.Row
  rw [sumR_congr (g:=fun c=>((S.A i c:Int):Rat) * x c) fun c hc=>by rw [cast_floor (hd c hc)]]
  exact h2
 ·have h2:=(box_of h1 hv).1 b hb
  rw [← cast_floor (hd v hv)] at h2
  exact cast_le.1 h2
 ·have h2:=(box_of h1 hv).2 b hb
  rw [← cast_floor (hd v hv)] at h2
  exact cast_le.1 h2
def LRun (S:ISys) (t:Nat → LS) (j:Nat):Prop:=t 0 = LS.first ∧ ∀ i,i < j → LStep S (t i) (t (i + 1))
theorem LRun.good {S:ISys} {t:Nat → LS} {j:Nat} (h:LRun S t j):∀ i,i ≤ j → LGood S (t i)
 | 0,_=>by rw [h.1]; exact LGood.first S
 | i + 1,hi=>(h.good i (by omega)).step (h.2 i (by omega))
theorem Never'.unique {S:Sys} {y y':Nat → Rat} (h:Never' S y) (h':Never' S y'):y = y':=by
 obtain ⟨u,l,hu,hf,_,rfl⟩:=h
 obtain ⟨u',l',hu',hf',_,rfl⟩:=h'
 obtain rfl:=hu.unique hu'
 rw [hf.unique hu.inv.at'.toldInj hf']
theorem Found'.unique {S:Sys} {x x':Nat → Rat} (h:Found' S x) (h':Found' S x'):x = x':=by
 obtain ⟨u,hu,_,rfl⟩:=h
 obtain ⟨u',hu',_,rfl⟩:=h'
 rw [hu.unique hu']
theorem Never'.found {S:Sys} {y x:Nat → Rat} (h:Never' S y) (h':Found' S x):False:=h.never.no h'.fits
theorem LStep.unique {S:ISys} {st a b:LS} (h:LStep S st a) (h':LStep S st b):a = b:=by
 rcases h with ⟨y,ks,f,t,hy,hb,rfl⟩ | ⟨x,v,hx,hv,hd,hc,rfl⟩ <;> rcases h' with ⟨y',ks',f',t',hy',hb',rfl⟩ | ⟨x',v',hx',hv',hd',hc',rfl⟩
 ·rw [hb] at hb'
  obtain ⟨rfl,rfl,rfl⟩:ks = ks' ∧ f = f' ∧ t = t':=by simpa using hb'
  rw [hy.unique hy']
 ·exact (hy.found hx').elim
 ·exact (hy'.found hx).elim
 ·obtain rfl:=hx.unique hx'
  have:v = v':=by
   rcases Nat.lt_trichotomy v v' with h | h | h
   ·exact (hd (hc' v h)).elim
   ·exact h
   ·exact (hd' (hc v' h)).elim
  subst this
  rfl
theorem LFin.unique {S:ISys} {st:LS} {a b:Fin'} (h:LFin S st a) (h':LFin S st b):a = b:=by
 cases a <;> cases b
 ·obtain ⟨x,hx,_,rfl⟩:=h
  obtain ⟨x',hx',_,rfl⟩:=h'
  rw [hx.unique hx']
 ·obtain ⟨x,hx,_,rfl⟩:=h
  obtain ⟨y,hy,_,rfl⟩:=h'
  exact (hy.found hx).elim
 ·obtain ⟨y,hy,_,rfl⟩:=h
  obtain ⟨x,hx,_,rfl⟩:=h'
  exact (hy.found hx).elim
 ·obtain ⟨y,hy,_,rfl⟩:=h
  obtain ⟨y',hy',_,rfl⟩:=h'
  rw [hy.unique hy']
theorem LFin.not_step {S:ISys} {st st':LS} {a:Fin'} (h:LFin S st a) (h':LStep S st st'):False:=by
 rcases h' with ⟨y,ks,f,t,hy,hb,rfl⟩ | ⟨x,v,hx,hv,hd,hc,rfl⟩
 ·cases a
  ·obtain ⟨x,hx,_⟩:=h
   exact hy.found hx
  ·obtain ⟨_,_,hb',_⟩:=h
   rw [hb] at hb'
   cases hb'
 ·cases a
  ·obtain ⟨x',hx',hd',_⟩:=h
   obtain rfl:=hx.unique hx'
   exact hd (hd' v hv)
  ·obtain ⟨y,hy,_⟩:=h
   exact hy.found hx
theorem LRun.same {S:ISys} {t t':Nat → LS} {j j':Nat} (h:LRun S t j) (h':LRun S t' j'):∀ i,i ≤ j → i ≤ j' → t i = t' i
 | 0,_,_=>by rw [h.1,h'.1]
 | i + 1,h1,h2=>by
  have e:=h.same h' i (by omega) (by omega)
  have s:=h.2 i (by omega)
  have s':=h'.2 i (by omega)
  rw [← e] at s'
  exact s.unique s'
theorem LRun.le {S:ISys} {t t':Nat → LS} {j j':Nat} {a:Fin'} (h:LRun S t j) (ha:LFin S (t j) a) (h':LRun S t' j'):j' ≤ j:=by
 refine Classical.byContradiction fun hno=>?_
 have e:=h.same h' j (Nat.le_refl _) (by omega)
 have s:=h'.2 j (by omega)
 rw [← e] at s
 exact ha.not_step s
theorem LRun.fin {S:ISys} {t t':Nat → LS} {j j':Nat} {a b:Fin'} (h:LRun S t j) (ha:LFin S (t j) a) (h':LRun S t' j') (hb:LFin S (t' j') b):j = j' ∧ a = b:=by
 have e:j = j':=Nat.le_antisymm (h'.le hb h) (h.le ha h')
 subst e
 rw [← h.same h' j (Nat.le_refl _) (Nat.le_refl _)] at hb
 exact ⟨rfl,ha.unique hb⟩
end Go.Proofs.Ytphjffbldhhdiaa
