/- How great the numbers of the search are: plain. -/
import Derived.Test.YtphjffbldhhdiaaSxOver
import Derived.Test.YtphjffbldhhdiaaLiPlain
namespace Go.Proofs.Ytphjffbldhhdiaa

def Qd (a b:Nat) (q:Rat):Prop:=len q.num ≤ a ∧ len (q.den:Int) ≤ b
section
variable {a b a' b' s M:Nat} {p q:Rat}
theorem len_one:len ((1:Nat):Int) ≤ 1:=dg_len BB2 (by decide)
theorem Qd.mono (h:Qd a b q) (h1:a ≤ a') (h2:b ≤ b'):Qd a' b' q:=⟨Nat.le_trans h.1 h1,Nat.le_trans h.2 h2⟩
theorem Qd.n (h:Qd a b q) {n:Nat} (h1:a ≤ n) (h2:b ≤ n):Qn n q:=⟨Nat.le_trans h.1 h1,Nat.le_trans h.2 h2⟩
theorem Qd.make {x y:Int} (hx:len x ≤ a) (hy:len y ≤ b) (h1:1 ≤ b):Qd a b (Rat.divInt x y):=by
 refine ⟨Nat.le_trans (len_le (divInt_num_le x y)) hx,?_⟩
 by_cases h:y = 0
 ·subst h
  rw [Rat.divInt_zero,Rat.zero_den]
  exact Nat.le_trans len_one h1
 ·exact Nat.le_trans (len_le (by simpa using divInt_den_le h)) hy
theorem Qd.den1 (h:Qd a b q):1 ≤ b:=(Qn.den1 (n:=max a b) ⟨Nat.le_trans h.1 (Nat.le_max_left _ _),Nat.le_trans h.2 (Nat.le_max_right _ _)⟩:1 ≤ max a b) |> fun _=>by
 have h2:Qn (len (q.den:Int) + len q.num) q:=⟨by omega,by omega⟩
 rcases Nat.eq_zero_or_pos (len (q.den:Int)) with e | e
 ·exfalso
  have:=(dg_eq_nil BB2).1 (List.length_eq_zero_iff.1 e)
  have h2:=q.den_nz
  simp at this
  exact h2 this
 ·exact Nat.le_trans e h.2
theorem Qd.add (hp:Qd a b p) (hq:Qd a' b' q):Qd (max (a + b') (a' + b) + 1) (b + b') (p + q):=by
 rw [← add_div]
 have h1:=len_mul p.num (q.den:Int)
 have h2:=len_mul q.num (p.den:Int)
 have h3:=len_add (p.num * (q.den:Int)) (q.num * (p.den:Int))
 have h4:=len_mul (p.den:Int) (q.den:Int)
 have h5:=hp.den1
 obtain ⟨a1,a2⟩:=hp
 obtain ⟨b1,b2⟩:=hq
 exact Qd.make (by omega) (by omega) (by omega)
theorem Qd.mulInt (hp:Qn s p) {z:Int} (hz:len z ≤ M):Qd (s + M) s (p * (z:Rat)):=by
 rw [← mul_div,Rat.num_intCast,Rat.den_intCast]
 have h0:=hp.den1
 have h1:=len_mul p.num z
 obtain ⟨a1,a2⟩:=hp
 refine Qd.make (by omega) ?_ h0
 rw [show ((1:Nat):Int) = 1 from rfl,Int.mul_one]
 exact a2
theorem sum_qd {f:Nat → Rat} (h1:1 ≤ s):∀ n,(∀ i,i < n → Qd (s + M) s (f i)) → Qd (M + (n + 1) * s + n) (n * s + 1) (sumR n f)
 | 0,_=>⟨by show len 0 ≤ _; exact Nat.zero_le _,by
   show len ((1:Nat):Int) ≤ _
   exact Nat.le_trans len_one (by omega)⟩
 | n + 1,h=>by
  have h2:=(sum_qd h1 n fun i hi=>h i (by omega)).add (h n (by omega))
  have e1:(n + 1 + 1) * s = n * s + s + s:=by rw [Nat.add_mul,Nat.add_mul,Nat.one_mul]
  have e2:(n + 1) * s = n * s + s:=by rw [Nat.add_mul,Nat.one_mul]
  exact Qd.mono h2 (by omega) (by omega)
end
def IntM (M:Nat) (q:Rat):Prop:=∃ z:Int,q = (z:Rat) ∧ len z ≤ M
theorem Inv.valInt {S:Sys} {t:Sim} {s M:Nat} (hA:∀ i c,i < S.m → c < S.n → Qn s (S.A i c)) (hM:∀ i,i < S.m → IntM M (S.most i)) (h1:1 ≤ s) (h:Inv S t) {v:Nat} (hv:v < S.n + S.m) :
  Qd (M + (S.n + 1) * szB s S.n + S.n) (S.n * szB s S.n + 1) (t.val v):=by
 have hs:1 ≤ szB s S.n:=Nat.le_trans h1 (szB_mono (d:=0) (Nat.zero_le _))
 have hcol:∀ c,c < S.n → IntM M (t.val (t.col c)):=fun c hc=>by
  rcases Nat.lt_or_ge (t.col c) S.n with h2 | h2
  ·exact ⟨0,by rw [h.lo c hc h2]; rfl,Nat.zero_le _⟩
  ·rw [h.hi c hc h2]
   have:=h.at'.colLt c hc
   exact hM _ (by omega)
 have e2:(S.n + 1) * szB s S.n = S.n * szB s S.n + szB s S.n:=by rw [Nat.add_mul,Nat.one_mul]
 rcases h.at'.all v hv with ⟨l,h2,h3⟩ | ⟨c,h2,h3⟩
 ·rw [← h3,(h.tells _).mp h.rel l h2]
  exact sum_qd hs S.n fun c hc=>by
   obtain ⟨z,e,hz⟩:=hcol c hc
   rw [e]
   exact Qd.mulInt (h.size sizesQ hA h2 hc) hz
 ·rw [← h3]
  obtain ⟨z,e,hz⟩:=hcol c h2
  rw [e]
  refine ⟨by rw [Rat.num_intCast]; omega,?_⟩
  rw [Rat.den_intCast]
  exact Nat.le_trans len_one (by omega)
theorem floor_len (q:Rat):len q.floor ≤ len q.num:=by
 refine len_le ?_
 rw [Rat.floor_def]
 exact Int.natAbs_ediv_le_natAbs _ _
def growB (n:Nat):Nat:=(n + 1) * szB 1 n + n + 1
def BdSz (n M:Nat) (f:Nat → Option Int):Prop:=∀ v,v < n → ∀ b,f v = some b → len b ≤ M
def FkSz (n M:Nat) (k:Fk):Prop:=k.v < n ∧ len k.fl ≤ M ∧ len (k.fl + 1) ≤ M ∧ ∀ b,k.old = some b → len b ≤ M
structure LSz (S:ISys) (st:LS) (M:Nat):Prop where
 floor:BdSz S.n M st.floor
 top:BdSz S.n M st.top
 forks:∀ k ∈ st.forks,FkSz S.n M k
structure ISz (S:ISys) (M:Nat):Prop where
 A:∀ i c,i < S.m → c < S.n → len (S.A i c) ≤ 1
 most:∀ i,i < S.m → len (S.most i) ≤ M
theorem LSz.first {S:ISys} {M:Nat}:LSz S LS.first M where
 floor:=fun _ _ _ h=>by cases h
 top:=fun _ _ _ h=>by cases h
 forks:=fun _ h=>by cases h
theorem BdSz.put {n M:Nat} {f:Nat → Option Int} (h:BdSz n M f) (k:Nat) {o:Option Int} (ho:∀ b,o = some b → len b ≤ M):BdSz n M (put f k o):=fun v hv b hb=>by
 by_cases he:v = k
 ·subst he
  rw [put_at] at hb
  exact ho b hb
 ·rw [put_else _ _ he] at hb
  exact h v hv b hb
theorem back_sz {n M:Nat}:∀ {ks:List Fk} {f t:Nat → Option Int} {ks' f' t'},(∀ k ∈ ks,FkSz n M k) → BdSz n M f → BdSz n M t → backF ks f t = some (ks',f',t') → (∀ k ∈ ks',FkSz n M k) ∧ BdSz n M f' ∧ BdSz n M t'
 | [],_,_,_,_,_,_,_,_,h=>by cases h
 | k :: r,f,t,ks',f',t',hk,hf,ht,h=>by
  have hk0:=hk k (List.mem_cons_self ..)
  unfold backF at h
  by_cases hu:k.up = true
  ·rw [if_pos hu] at h
   exact back_sz (fun x hx=>hk x (List.mem_cons_of_mem _ hx)) (hf.put _ hk0.2.2.2) ht h
  ·rw [if_neg hu] at h
   obtain ⟨rfl,rfl,rfl⟩:_ = ks' ∧ _ = f' ∧ _ = t':=by simpa using h
   refine ⟨fun x hx=>?_,hf.put _ (fun b hb=>?_),ht.put _ hk0.2.2.2⟩
   ·rcases List.mem_cons.1 hx with rfl | hx
    ·exact ⟨hk0.1,hk0.2.1,hk0.2.2.1,fun b hb=>hf k.v hk0.1 b hb⟩
    ·exact hk x (List.mem_cons_of_mem _ hx)
   ·obtain rfl:=Option.some.inj hb
    exact hk0.2.2.1
theorem LSz.mono {S:ISys} {st:LS} {M M':Nat} (h:LSz S st M) (hM:M ≤ M'):LSz S st M' where
 floor:=fun v hv b hb=>Nat.le_trans (h.floor v hv b hb) hM
 top:=fun v hv b hb=>Nat.le_trans (h.top v hv b hb) hM
 forks:=fun k hk=>by
  obtain ⟨h1,h2,h3,h4⟩:=h.forks k hk
  exact ⟨h1,Nat.le_trans h2 hM,Nat.le_trans h3 hM,fun b hb=>Nat.le_trans (h4 b hb) hM⟩
theorem LSz.rows {S:ISys} {st:LS} {M:Nat} (h:LSz S st M) (hS:ISz S M):(∀ i c,i < (st.sys S).m → c < (st.sys S).n → Qn 1 ((st.sys S).A i c)) ∧ ∀ i,i < (st.sys S).m → IntM M ((st.sys S).most i):=by
 have hb:∀ r ∈ bRows st.floor st.top S.n,len r.2.1 ≤ 1 ∧ len r.2.2 ≤ M:=fun r hr=>by
  obtain ⟨v,hv,⟨b,h1,rfl⟩ | ⟨b,h1,rfl⟩⟩:=mem_bRows.1 hr
  ·exact ⟨len_one,h.top v hv b h1⟩
  ·refine ⟨by show len (-1) ≤ 1; rw [len_neg]; exact len_one,?_⟩
   show len (-b) ≤ M
   rw [len_neg]
   exact h.floor v hv b h1
 refine ⟨fun i c hi hc=>?_,fun i hi=>?_⟩
 ·have hc':c < S.n:=hc
  show Qn 1 (if c < S.n then (if i < S.m then ((S.A i c:Int):Rat) else match (bRows st.floor st.top S.n)[i - S.m]? with | some r=>(if r.1 = c then ((r.2.1:Int):Rat) else 0) | none=>0) else 0)
  rw [if_pos hc']
  by_cases h1:i < S.m
  ·rw [if_pos h1]
   exact Qn.int (hS.A i c h1 hc') (Nat.le_refl _)
  ·rw [if_neg h1]
   have hi':i < S.m + (bRows st.floor st.top S.n).length:=hi
   have hj:i - S.m < (bRows st.floor st.top S.n).length:=by omega
   rw [List.getElem?_eq_getElem hj]
   show Qn 1 (if (bRows st.floor st.top S.n)[i - S.m].1 = c then _ else 0)
   split
   ·exact Qn.int (hb _ (List.getElem_mem hj)).1 (Nat.le_refl _)
   ·exact Qn.int (z:=0) (Nat.zero_le _) (Nat.le_refl _)
 ·show IntM M (if i < S.m then ((S.most i:Int):Rat) else match (bRows st.floor st.top S.n)[i - S.m]? with | some r=>((r.2.2:Int):Rat) | none=>0)
  by_cases h1:i < S.m
  ·rw [if_pos h1]
   exact ⟨_,rfl,hS.most i h1⟩
  ·rw [if_neg h1]
   have hi':i < S.m + (bRows st.floor st.top S.n).length:=hi
   have hj:i - S.m < (bRows st.floor st.top S.n).length:=by omega
   rw [List.getElem?_eq_getElem hj]
   exact ⟨_,rfl,(hb _ (List.getElem_mem hj)).2⟩
theorem LSz.vals {S:ISys} {st:LS} {M:Nat} (h:LSz S st M) (hS:ISz S M) {x:Nat → Rat} (hx:Found' (st.sys S) x) {c:Nat} (hc:c < S.n):Qd (M + (S.n + 1) * szB 1 S.n + S.n) (S.n * szB 1 S.n + 1) (x c):=by
 obtain ⟨u,hu,_,rfl⟩:=hx
 obtain ⟨h1,h2⟩:=h.rows hS
 exact hu.inv.valInt h1 h2 (Nat.le_refl _) (show c < S.n + _ by omega)
theorem LSz.step {S:ISys} {st st':LS} {M:Nat} (h:LSz S st M) (hS:ISz S M) (hs:LStep S st st'):LSz S st' (M + growB S.n):=by
 rcases hs with ⟨y,ks,f,t,hy,hb,rfl⟩ | ⟨x,v,hx,hv,hd,_,rfl⟩
 ·obtain ⟨h1,h2,h3⟩:=back_sz h.forks h.floor h.top hb
  exact LSz.mono (M:=M) ⟨h2,h3,h1⟩ (Nat.le_add_right _ _)
 ·have h1:=(h.vals hS hx hv).1
  have h2:=floor_len (x v)
  have h3:=len_add (x v).floor 1
  have h4:len 1 ≤ 1:=len_one
  have hM:=h.mono (M':=M + growB S.n) (Nat.le_add_right _ _)
  have hg:growB S.n = (S.n + 1) * szB 1 S.n + S.n + 1:=rfl
  have hs:1 ≤ szB 1 S.n:=szB_mono (d:=0) (Nat.zero_le _)
  have e2:(S.n + 1) * szB 1 S.n = S.n * szB 1 S.n + szB 1 S.n:=by rw [Nat.add_mul,Nat.one_mul]
  have hfl:len (x v).floor ≤ M + growB S.n:=by omega
  have hfl1:len ((x v).floor + 1) ≤ M + growB S.n:=by omega
  refine ⟨hM.floor,hM.top.put v (fun b hb=>by obtain rfl:=Option.some.inj hb; exact hfl),fun k hk=>?_⟩
  rcases List.mem_cons.1 hk with rfl | hk
  ·exact ⟨hv,hfl,hfl1,fun b hb=>hM.top v hv b hb⟩
  ·exact hM.forks k hk
theorem ISz.mono {S:ISys} {M M':Nat} (h:ISz S M) (hM:M ≤ M'):ISz S M':=⟨h.A,fun i hi=>Nat.le_trans (h.most i hi) hM⟩
theorem LRun.sz {S:ISys} {t:Nat → LS} {j M:Nat} (hr:LRun S t j) (hS:ISz S M):∀ i,i ≤ j → LSz S (t i) (M + i * growB S.n)
 | 0,_=>by rw [hr.1]; exact LSz.first
 | i + 1,hi=>by
  have h:=(hr.sz hS i (by omega)).step (hS.mono (Nat.le_add_right _ _)) (hr.2 i (by omega))
  exact h.mono (by rw [Nat.add_mul,Nat.one_mul]; omega)
end Go.Proofs.Ytphjffbldhhdiaa
