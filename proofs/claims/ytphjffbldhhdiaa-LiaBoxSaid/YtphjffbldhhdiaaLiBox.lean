/- How long a search in a small box is: plain. -/
import Derived.Test.YtphjffbldhhdiaaLiPlain
namespace Go.Proofs.Ytphjffbldhhdiaa

def loB:Option Int → Int
 | some b=>max (-2) b
 | none=>-2
def hiB:Option Int → Int
 | some b=>min 2 b
 | none=>2
def width (f t:Nat → Option Int) (v:Nat):Nat:=(hiB (t v) - loB (f v) + 1).toNat
def prodN (w:Nat → Nat):Nat → Nat
 | 0=>1
 | n + 1=>prodN w n * w n
theorem prodN_congr {a b:Nat → Nat}:∀ {n:Nat},(∀ c,c < n → a c = b c) → prodN a n = prodN b n
 | 0,_=>rfl
 | n + 1,h=>by rw [prodN,prodN,prodN_congr fun c hc=>h c (by omega),h n (by omega)]
theorem prodN_split {a b d:Nat → Nat} {v:Nat}:∀ {n:Nat},v < n → (∀ c,c < n → c ≠ v → b c = a c ∧ d c = a c) → a v = b v + d v → prodN a n = prodN b n + prodN d n
 | n + 1,hv,h,he=>by
  by_cases e:v = n
  ·subst e
   rw [prodN,prodN,prodN,prodN_congr (a:=b) (b:=a) fun c hc=>(h c (by omega) (by omega)).1,prodN_congr (a:=d) (b:=a) fun c hc=>(h c (by omega) (by omega)).2,he,Nat.mul_add]
  ·rw [prodN,prodN,prodN,prodN_split (by omega) (fun c hc hne=>h c (by omega) hne) he,(h n (by omega) (fun e'=>e e'.symm)).1,(h n (by omega) (fun e'=>e e'.symm)).2,Nat.add_mul]
theorem prodN_pos {a:Nat → Nat}:∀ {n:Nat},(∀ c,c < n → 0 < a c) → 0 < prodN a n
 | 0,_=>Nat.one_pos
 | n + 1,h=>Nat.mul_pos (prodN_pos fun c hc=>h c (by omega)) (h n (by omega))
theorem pos_prodN {a:Nat → Nat}:∀ {n:Nat},0 < prodN a n → ∀ c,c < n → 0 < a c
 | n + 1,h,c,hc=>by
  rw [prodN] at h
  have h1:=Nat.pos_of_mul_pos_left h
  have h2:=Nat.pos_of_mul_pos_right h
  by_cases e:c = n
  ·subst e; first | exact h1 | exact h2
  ·first | exact pos_prodN h2 c (by omega) | exact pos_prodN h1 c (by omega)
def pts (n:Nat) (f t:Nat → Option Int):Nat:=prodN (width f t) n
def toCome (n:Nat):List Fk → (Nat → Option Int) → (Nat → Option Int) → Nat
 | [],_,_=>0
 | k :: r,f,t=>if k.up = true then toCome n r (put f k.v k.old) t else (2 * pts n (put f k.v (some (k.fl + 1))) (put t k.v k.old) - 1) + toCome n r f (put t k.v k.old)
def NoEmpty (n:Nat):List Fk → (Nat → Option Int) → (Nat → Option Int) → Prop
 | [],_,_=>True
 | k :: r,f,t=>if k.up = true then NoEmpty n r (put f k.v k.old) t else 0 < pts n (put f k.v (some (k.fl + 1))) (put t k.v k.old) ∧ NoEmpty n r f (put t k.v k.old)
theorem come_back {n:Nat}:∀ {ks:List Fk} {f t:Nat → Option Int} {ks' f' t'},NoEmpty n ks f t → backF ks f t = some (ks',f',t') → 0 < pts n f' t' ∧ NoEmpty n ks' f' t' ∧ (2 * pts n f' t' - 1) + toCome n ks' f' t' = toCome n ks f t
 | [],_,_,_,_,_,_,h=>by cases h
 | k :: r,f,t,ks',f',t',hn,h=>by
  unfold backF at h
  unfold NoEmpty at hn
  rw [toCome]
  by_cases hu:k.up = true
  ·rw [if_pos hu] at h hn ⊢
   exact come_back hn h
  ·rw [if_neg hu] at h hn ⊢
   obtain ⟨rfl,rfl,rfl⟩:_ = ks' ∧ _ = f' ∧ _ = t':=by simpa using h
   refine ⟨hn.1,?_,?_⟩
   ·unfold NoEmpty
    rw [if_pos rfl]
    show NoEmpty n r (put (put f k.v (some (k.fl + 1))) k.v (f k.v)) (put t k.v k.old)
    rw [put_back]
    exact hn.2
   ·rw [toCome,if_pos rfl]
    show _ + toCome n r (put (put f k.v (some (k.fl + 1))) k.v (f k.v)) (put t k.v k.old) = _
    rw [put_back]
structure BoxOk (S:ISys) (st:LS):Prop where
 cur:0 < pts S.n st.floor st.top
 rest:NoEmpty S.n st.forks st.floor st.top
def phi (S:ISys) (st:LS):Nat:=(2 * pts S.n st.floor st.top - 1) + toCome S.n st.forks st.floor st.top
theorem not_int {q:Rat} (h:q.den ≠ 1):((q.floor:Int):Rat) < q ∧ q < (((q.floor + 1):Int):Rat):=by
 refine ⟨?_,?_⟩
 ·have h1:((q.floor:Int):Rat) ≤ q:=Rat.floor_le _
  refine Classical.byContradiction fun hno=>?_
  have h2:((q.floor:Int):Rat) = q:=by grind
  exact h (by rw [← h2]; exact Rat.den_intCast _)
 ·have h1:q - 1 < ((q.floor:Int):Rat):=Rat.lt_floor
  rw [Rat.intCast_add,show ((1:Int):Rat) = 1 from rfl]
  grind
theorem fork_in {f t:Nat → Option Int} {x:Rat} {v:Nat} (hd:x.den ≠ 1) (h2:(-2:Rat) ≤ x) (h3:x ≤ 2) (hf:∀ b,f v = some b → ((b:Int):Rat) ≤ x) (ht:∀ b,t v = some b → x ≤ ((b:Int):Rat)):loB (f v) ≤ x.floor ∧ x.floor + 1 ≤ hiB (t v):=by
 obtain ⟨n1,n2⟩:=not_int hd
 have a1:(-2:Int) ≤ x.floor:=by
  have h:(((-2:Int):Int):Rat) < (((x.floor + 1):Int):Rat):=by
   rw [show (((-2:Int):Int):Rat) = -2 from rfl]
   grind
  have:=Rat.intCast_lt_intCast.1 h
  omega
 have a2:x.floor + 1 ≤ 2:=by
  have h:((x.floor:Int):Rat) < ((2:Int):Rat):=by
   rw [show (((2:Int):Int):Rat) = 2 from rfl]
   grind
  have:=Rat.intCast_lt_intCast.1 h
  omega
 refine ⟨?_,?_⟩
 ·cases e:f v with
  | none=>exact a1
  | some b=>
   have h:=hf b e
   have h5:((b:Int):Rat) < (((x.floor + 1):Int):Rat):=by grind
   have:=Rat.intCast_lt_intCast.1 h5
   show max (-2) b ≤ _
   omega
 ·cases e:t v with
  | none=>exact a2
  | some b=>
   have h:=ht b e
   have h5:((x.floor:Int):Rat) < ((b:Int):Rat):=by grind
   have:=Rat.intCast_lt_intCast.1 h5
   show _ ≤ min 2 b
   omega
theorem split_pts {n:Nat} {f t:Nat → Option Int} {v:Nat} {z:Int} (hv:v < n) (h1:loB (f v) ≤ z) (h2:z + 1 ≤ hiB (t v)):pts n f t = pts n f (put t v (some z)) + pts n (put f v (some (z + 1))) t ∧ 0 < width f (put t v (some z)) v ∧ 0 < width (put f v (some (z + 1))) t v:=by
 have hl:-2 ≤ loB (f v):=by
  cases f v with
  | none=>exact Int.le_refl _
  | some b=>show -2 ≤ max (-2) b; omega
 have hh:hiB (t v) ≤ 2:=by
  cases t v with
  | none=>exact Int.le_refl _
  | some b=>show min 2 b ≤ 2; omega
 have e1:width f (put t v (some z)) v = (z - loB (f v) + 1).toNat:=by
  unfold width
  rw [put_at]
  show (min 2 z - loB (f v) + 1).toNat = _
  congr 2
  omega
 have e2:width (put f v (some (z + 1))) t v = (hiB (t v) - (z + 1) + 1).toNat:=by
  unfold width
  rw [put_at]
  show (hiB (t v) - max (-2) (z + 1) + 1).toNat = _
  congr 2
  omega
 refine ⟨prodN_split hv (fun c _ hne=>⟨?_,?_⟩) ?_,by rw [e1]; omega,by rw [e2]; omega⟩
 ·unfold width; rw [put_else _ _ hne]
 ·unfold width; rw [put_else _ _ hne]
 ·rw [e1,e2]
  unfold width
  omega
theorem BoxOk.step {S:ISys} {st st':LS} (h:BoxOk S st) (hbox:∀ x,(st.sys S).Fits x → ∀ v,v < S.n → (-2:Rat) ≤ x v ∧ x v ≤ 2) (hs:LStep S st st'):BoxOk S st' ∧ phi S st' + 1 ≤ phi S st:=by
 rcases hs with ⟨y,ks,f,t,hy,hb,rfl⟩ | ⟨x,v,hx,hv,hd,_,rfl⟩
 ·obtain ⟨h1,h2,h3⟩:=come_back h.rest hb
  refine ⟨⟨h1,h2⟩,?_⟩
  have:=h.cur
  show (2 * pts S.n f t - 1) + toCome S.n ks f t + 1 ≤ (2 * pts S.n st.floor st.top - 1) + toCome S.n st.forks st.floor st.top
  omega
 ·have hfit:=hx.fits
  obtain ⟨b1,b2⟩:=hbox x hfit v hv
  obtain ⟨c1,c2⟩:=box_of hfit hv
  obtain ⟨d1,d2⟩:=fork_in (f:=st.floor) (t:=st.top) hd b1 b2 c1 c2
  obtain ⟨e1,e2,e3⟩:=split_pts hv d1 d2
  have hw:=pos_prodN h.cur
  have p1:0 < pts S.n st.floor (put st.top v (some (x v).floor)):=prodN_pos fun c hc=>by
   by_cases he:c = v
   ·subst he; exact e2
   ·have:=hw c hc
    unfold width at this ⊢
    rw [put_else _ _ he]
    exact this
  have p2:0 < pts S.n (put st.floor v (some ((x v).floor + 1))) st.top:=prodN_pos fun c hc=>by
   by_cases he:c = v
   ·subst he; exact e3
   ·have:=hw c hc
    unfold width at this ⊢
    rw [put_else _ _ he]
    exact this
  refine ⟨⟨p1,?_⟩,?_⟩
  ·show NoEmpty S.n (⟨v,(x v).floor,false,st.top v⟩ :: st.forks) st.floor (put st.top v (some (x v).floor))
   unfold NoEmpty
   rw [if_neg (by simp),put_back]
   exact ⟨p2,h.rest⟩
  ·show (2 * pts S.n st.floor (put st.top v (some (x v).floor)) - 1) + toCome S.n (⟨v,(x v).floor,false,st.top v⟩ :: st.forks) st.floor (put st.top v (some (x v).floor)) + 1 ≤ (2 * pts S.n st.floor st.top - 1) + toCome S.n st.forks st.floor st.top
   rw [toCome,if_neg (by simp),put_back]
   show _ + ((2 * pts S.n (put st.floor v (some ((x v).floor + 1))) st.top - 1) + _) + 1 ≤ _
   omega
theorem box_first (n:Nat):pts n (fun _=>none) (fun _=>none) = 5 ^ n:=by
 induction n with
 | zero=>rfl
 | succ n ih=>
  unfold pts at ih ⊢
  rw [prodN,ih,Nat.pow_succ]
  rfl
theorem LRun.short {S:ISys} {t:Nat → LS} {j:Nat} (hr:LRun S t j) (hn:S.n ≤ 3) (hbox:∀ st x,(LS.sys S st).Fits x → ∀ v,v < S.n → (-2:Rat) ≤ x v ∧ x v ≤ 2):j ≤ 249:=by
 have key:∀ i,i ≤ j → BoxOk S (t i) ∧ phi S (t i) + i ≤ 249:=by
  intro i
  induction i with
  | zero=>
   intro _
   have h5:5 ^ S.n ≤ 5 ^ 3:=Nat.pow_le_pow_right (by decide) hn
   have e:=box_first S.n
   rw [hr.1]
   refine ⟨⟨?_,trivial⟩,?_⟩
   ·show 0 < pts S.n (fun _=>none) (fun _=>none)
    rw [e]
    exact Nat.pow_pos (by decide)
   ·show (2 * pts S.n (fun _=>none) (fun _=>none) - 1) + 0 + 0 ≤ 249
    rw [e]
    omega
  | succ i ih=>
   intro hi
   obtain ⟨h1,h2⟩:=ih (by omega)
   obtain ⟨h3,h4⟩:=h1.step (hbox (t i)) (hr.2 i (by omega))
   exact ⟨h3,by omega⟩
 have:=(key j (Nat.le_refl _)).2
 omega
end Go.Proofs.Ytphjffbldhhdiaa
