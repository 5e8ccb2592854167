/- Texts in one file: Dig, Blk, NumMem, Whole1, Whole2, Own, Plus, Minus, Two, Add, Neg, Row, MulLaw, Mul, Short. -/
import Derived.Lib.Hide
import Derived.Test.YtphjffbldhhdiaaProg
import Derived.Tactics
import Derived.Tactics2
import Derived.WalkKit
import Derived.LoopTactic
import Derived.Laws.AppendOwn
import Derived.Below
import Derived.OneCell
import Derived.KernelRfl
import Derived.Deep.QuietTactic
import Derived.BigQuiet
import Derived.Deep.Draws
import Derived.Deep.OwnRows
import Derived.Deep.LoopGhost
import Derived.WalkSpells
import Derived.WalkLawsBesides
import Derived.Deep.RegionHeld3
import Derived.Deep.RegionWith
import Derived.Deep.DeepCutAuto
import Derived.OwnWalk
import Derived.Laws.AppendOwnNone
namespace Go.Proofs.Ytphjffbldhhdiaa
/-- An edge of a drawn region, in short. -/
abbrev eD (n:Nat):Edge:=⟨n,.data⟩
abbrev eC (n:Nat):Edge:=⟨n,.chain⟩
abbrev eP (n:Nat):Edge:=⟨n,.phase⟩
abbrev eG (n:Nat):Edge:=⟨n,.guard⟩

def val (b:Nat):List Nat → Nat
 | []=>0
 | d :: r=>d + b * val b r

def Digs (b:Nat) (ds:List Nat):Prop:=∀ d ∈ ds,d < b
def Canon (b:Nat) (ds:List Nat):Prop:=Digs b ds ∧ ds.getLast? ≠ some 0

theorem val_append (b:Nat):∀ (x y:List Nat),val b (x ++ y) = val b x + b ^ x.length * val b y
 | [],y=>by simp [val]
 | d :: x,y=>by
  simp only [List.cons_append,val,val_append b x y,List.length_cons,Nat.pow_succ,Nat.mul_add]
  rw [Nat.mul_comm (b ^ x.length) b,Nat.mul_assoc]; omega
theorem val_snoc (b:Nat) (x:List Nat) (d:Nat):val b (x ++ [d]) = val b x + b ^ x.length * d:=by
 rw [val_append]; simp [val]
theorem val_lt {b:Nat}:∀ {ds:List Nat},Digs b ds → val b ds < b ^ ds.length
 | [],_=>by simp [val]
 | d :: r,h=>by
  have h0:d < b:=h d (by simp)
  have ih:=val_lt (b:=b) (ds:=r) (fun x hx=>h x (by simp [hx]))
  simp only [val,List.length_cons,Nat.pow_succ]
  have:b * (val b r + 1) ≤ b * b ^ r.length:=Nat.mul_le_mul_left b ih
  rw [Nat.mul_comm (b ^ r.length) b]
  rw [Nat.mul_add] at this
  omega
theorem val_zeros (b n:Nat):val b (List.replicate n 0) = 0:=by
 induction n with
 | zero=>rfl
 | succ n ih=>simp [List.replicate_succ,val,ih]
theorem Digs.nil (b:Nat):Digs b []:=fun _ h=>by cases h
theorem Digs.snoc {b:Nat} {ds:List Nat} (h:Digs b ds) {d:Nat} (hd:d < b):Digs b (ds ++ [d]):=by
 intro x hx
 rcases List.mem_append.1 hx with hx | hx
 ·exact h x hx
 ·simp at hx; omega
theorem Digs.take {b:Nat} {ds:List Nat} (h:Digs b ds) (n:Nat):Digs b (ds.take n):=fun x hx=>h x (List.mem_of_mem_take hx)
theorem Digs.drop {b:Nat} {ds:List Nat} (h:Digs b ds) (n:Nat):Digs b (ds.drop n):=fun x hx=>h x (List.mem_of_mem_drop hx)
theorem Digs.at {b:Nat} {ds:List Nat} (h:Digs b ds) {i:Nat} (hi:i < ds.length):ds[i] < b:=h _ (List.getElem_mem hi)
theorem Canon.nil (b:Nat):Canon b []:=⟨Digs.nil b,by simp⟩

theorem Canon.tail {b d:Nat} {r:List Nat} (h:Canon b (d :: r)):Canon b r:=by
 refine ⟨fun x hx=>h.1 x (by simp [hx]),?_⟩
 intro hl
 cases r with
 | nil=>simp at hl
 | cons e r=>exact h.2 (by rw [List.getLast?_cons_cons]; exact hl)

theorem Canon.pos {b:Nat}:∀ {ds:List Nat},0 < b → Canon b ds → ds ≠ [] → 0 < val b ds
 | [],_,_,h=>absurd rfl h
 | [d],_,h,_=>by
  have:d ≠ 0:=fun e=>h.2 (by simp [e])
  simp [val]; omega
 | d :: e :: r,hb,h,_=>by
  have:=Canon.pos (ds:=e :: r) hb h.tail (by simp)
  rw [val]
  have:=Nat.mul_pos hb this
  omega

theorem Canon.inj {b:Nat}:∀ {x y:List Nat},Canon b x → Canon b y → val b x = val b y → x = y
 | [],[],_,_,_=>rfl
 | [],e :: y,_,h',h=>by
  have hb:0 < b:=Nat.lt_of_le_of_lt (Nat.zero_le _) (h'.1 e (by simp))
  have:=h'.pos hb (by simp)
  rw [← h] at this
  simp [val] at this
 | d :: x,[],h,_,h'=>by
  have hb:0 < b:=Nat.lt_of_le_of_lt (Nat.zero_le _) (h.1 d (by simp))
  have:=h.pos hb (by simp)
  rw [h'] at this
  simp [val] at this
 | d :: x,e :: y,h,h',hv=>by
  have hd:=h.1 d (by simp)
  have he:=h'.1 e (by simp)
  simp only [val] at hv
  have h1:d = e:=by
   have:=congrArg (· % b) hv
   simpa [Nat.add_mul_mod_self_left,Nat.mod_eq_of_lt hd,Nat.mod_eq_of_lt he] using this
  subst h1
  have h2:val b x = val b y:=Nat.eq_of_mul_eq_mul_left (by omega:0 < b) (by omega)
  rw [Canon.inj h.tail h'.tail h2]

def trim (ds:List Nat):List Nat:=(ds.reverse.dropWhile (· == 0)).reverse

theorem trim_snoc_zero (ds:List Nat):trim (ds ++ [0]) = trim ds:=by simp [trim]
theorem trim_snoc {d:Nat} (h:d ≠ 0) (ds:List Nat):trim (ds ++ [d]) = ds ++ [d]:=by
 simp [trim,h]
theorem snoc_cases (ds:List Nat):ds = [] ∨ ∃ r d,ds = r ++ [d]:=by
 rcases List.eq_nil_or_concat ds with h | ⟨r,d,h⟩
 ·exact .inl h
 ·exact .inr ⟨r,d,by simpa using h⟩

theorem trim_facts (b:Nat):∀ (n:Nat) (ds:List Nat),ds.length = n → val b (trim ds) = val b ds ∧ (trim ds).getLast? ≠ some 0 ∧ ∃ m,m ≤ ds.length ∧ trim ds = ds.take m
 | 0,ds,h=>by
  obtain rfl:=List.eq_nil_of_length_eq_zero h
  exact ⟨rfl,by simp [trim],0,by simp,by simp [trim]⟩
 | n + 1,ds,h=>by
  rcases snoc_cases ds with rfl | ⟨r,d,rfl⟩
  ·simp at h
  ·have ih:=trim_facts b n r (by simpa using h)
   by_cases hd:d = 0
   ·subst hd
    rw [trim_snoc_zero]
    obtain ⟨h1,h2,m,h3,h4⟩:=ih
    refine ⟨by rw [h1,val_snoc]; simp,h2,m,by simp; omega,?_⟩
    rw [h4,List.take_append_of_le_length h3]
   ·rw [trim_snoc hd]
    exact ⟨rfl,by simpa using hd,(r ++ [d]).length,Nat.le_refl _,List.take_length.symm⟩
theorem trim_val (b:Nat) (ds:List Nat):val b (trim ds) = val b ds:=(trim_facts b _ ds rfl).1
theorem trim_canon {b:Nat} {ds:List Nat} (h:Digs b ds):Canon b (trim ds):=by
 obtain ⟨_,h2,m,_,h4⟩:=trim_facts b _ ds rfl
 exact ⟨by rw [h4]; exact h.take m,h2⟩
theorem trim_len (ds:List Nat):(trim ds).length ≤ ds.length:=by
 obtain ⟨_,_,m,h3,h4⟩:=trim_facts 1 _ ds rfl
 rw [h4,List.length_take]; omega
def digs (b:Nat):Nat → Nat → List Nat
 | 0,_=>[]
 | f + 1,n=>if n = 0 then [] else n % b :: digs b f (n / b)

theorem digs_facts {b:Nat} (hb:2 ≤ b):∀ (f n:Nat),n < f → Canon b (digs b f n) ∧ val b (digs b f n) = n
 | 0,n,h=>by omega
 | f + 1,n,h=>by
  rw [digs]
  split
  ·rename_i h0; subst h0; exact ⟨Canon.nil b,rfl⟩
  ·rename_i h0
   have hlt:n / b < n:=Nat.div_lt_self (by omega) hb
   obtain ⟨ih,ihv⟩:=digs_facts hb f (n / b) (by omega)
   have hm:n % b < b:=Nat.mod_lt _ (by omega)
   have hv:n % b + b * (n / b) = n:=by have:=Nat.div_add_mod n b; omega
   refine ⟨⟨?_,?_⟩,by rw [val,ihv]; exact hv⟩
   ·intro x hx
    rcases List.mem_cons.1 hx with rfl | hx
    ·exact hm
    ·exact ih.1 x hx
   ·intro hl
    cases hr:digs b f (n / b) with
    | nil=>
     rw [hr] at hl ihv
     simp at hl
     simp [val] at ihv
     rw [hl,← ihv] at hv
     simp at hv
     omega
    | cons e r=>
     rw [hr,List.getLast?_cons_cons] at hl
     exact ih.2 (by rw [hr]; exact hl)

def dg (b n:Nat):List Nat:=digs b (n + 1) n
theorem dg_canon {b:Nat} (hb:2 ≤ b) (n:Nat):Canon b (dg b n):=(digs_facts hb (n + 1) n (by omega)).1
theorem dg_val {b:Nat} (hb:2 ≤ b) (n:Nat):val b (dg b n) = n:=(digs_facts hb (n + 1) n (by omega)).2
theorem Canon.eq_dg {b:Nat} (hb:2 ≤ b) {ds:List Nat} (h:Canon b ds):ds = dg b (val b ds):=h.inj (dg_canon hb _) (dg_val hb _).symm
theorem dg_of {b:Nat} (hb:2 ≤ b) {ds:List Nat} (h:Canon b ds) {n:Nat} (hn:val b ds = n):dg b n = ds:=by rw [← hn]; exact (h.eq_dg hb).symm
theorem trim_dg {b:Nat} (hb:2 ≤ b) {ds:List Nat} (h:Digs b ds):trim ds = dg b (val b ds):=by
 rw [(trim_canon h).eq_dg hb,trim_val]

theorem Canon.len_le {b:Nat} {ds:List Nat} (h:Canon b ds) {k:Nat} (hk:val b ds < b ^ k):ds.length ≤ k:=by
 rcases snoc_cases ds with rfl | ⟨r,d,rfl⟩
 ·simp
 ·have hd:d ≠ 0:=fun e=>h.2 (by simp [e])
  have hdb:d < b:=h.1 d (by simp)
  rw [val_snoc] at hk
  have h1:b ^ r.length * 1 ≤ b ^ r.length * d:=Nat.mul_le_mul_left _ (by omega)
  have h2:b ^ r.length < b ^ k:=by omega
  have h3:r.length < k:=(Nat.pow_lt_pow_iff_right (by omega:1 < b)).1 h2
  simp; omega
theorem dg_len {b:Nat} (hb:2 ≤ b) {n k:Nat} (h:n < b ^ k):(dg b n).length ≤ k:=(dg_canon hb n).len_le (by rw [dg_val hb]; exact h)
theorem dg_lt {b:Nat} (hb:2 ≤ b) (n:Nat):n < b ^ (dg b n).length:=by
 have:=val_lt (dg_canon hb n).1
 rwa [dg_val hb] at this
theorem dg_eq_nil {b:Nat} (hb:2 ≤ b) {n:Nat}:dg b n = [] ↔ n = 0:=by
 constructor
 ·intro h; have:=dg_val hb n; rw [h] at this; exact this.symm
 ·rintro rfl; rfl
theorem dg_len_mono {b:Nat} (hb:2 ≤ b) {m n:Nat} (h:m ≤ n):(dg b m).length ≤ (dg b n).length:=dg_len hb (Nat.lt_of_le_of_lt h (dg_lt hb n))
theorem dg_len_mul {b:Nat} (hb:2 ≤ b) (m n:Nat):(dg b (m * n)).length ≤ (dg b m).length + (dg b n).length:=by
 apply dg_len hb
 rw [Nat.pow_add]
 exact Nat.mul_lt_mul'' (dg_lt hb m) (dg_lt hb n)
theorem dg_len_add {b:Nat} (hb:2 ≤ b) (m n:Nat):(dg b (m + n)).length ≤ max (dg b m).length (dg b n).length + 1:=by
 apply dg_len hb
 have h1:=Nat.lt_of_lt_of_le (dg_lt hb m) (Nat.pow_le_pow_right (by omega:0 < b) (Nat.le_max_left _ (dg b n).length))
 have h2:=Nat.lt_of_lt_of_le (dg_lt hb n) (Nat.pow_le_pow_right (by omega:0 < b) (Nat.le_max_right (dg b m).length _))
 rw [Nat.pow_succ]
 have:b ^ max (dg b m).length (dg b n).length * 2 ≤ b ^ max (dg b m).length (dg b n).length * b:=Nat.mul_le_mul_left _ hb
 omega
theorem Canon.lt_of_len {b:Nat} {x y:List Nat} (hx:Canon b x) (hy:Canon b y) (h:x.length < y.length):val b x < val b y:=by
 rcases Nat.lt_or_ge (val b x) (val b y) with h' | h'
 ·exact h'
 ·have:=hy.len_le (k:=x.length) (Nat.lt_of_le_of_lt h' (val_lt hx.1))
  omega
theorem val_take_drop (b:Nat) (ds:List Nat) (i:Nat) (hi:i ≤ ds.length):val b ds = val b (ds.take i) + b ^ i * val b (ds.drop i):=by
 conv=>lhs; rw [← List.take_append_drop i ds,val_append]
 rw [List.length_take,Nat.min_eq_left hi]
end Go.Proofs.Ytphjffbldhhdiaa

namespace Go.Proofs.Ytphjffbldhhdiaa
open Go.RowKit

theorem hide {p:Prop} (h:p):Hid p:=h

theorem only_refl (a:World) (row:Option Nat):a.grownBy a row:=⟨rfl,rfl,rfl,Nat.le_refl _,fun _ _ _=>rfl⟩
theorem only_setCell {a w:World} {g:Nat} (h:a.grownBy w (some g)) {p:Addr} (hp:p.block = g ∨ a.heap.size ≤ p.block) (u:Value):a.grownBy (w.setCell p u) (some g):=
 ⟨h.os,h.tape,h.output,by simpa [World.setCell] using h.size,fun i hi hne=>(Below.heap_setCell w p u i (by
  rintro rfl
  rcases hp with hp | hp
  ·exact hne (by rw [hp])
  ·omega)).trans (h.block i hi hne)⟩
def Blk (w:World) (g:Nat) (t:TypeId) (cs:Array Value):Prop:=w.heap[g]? = some (.cells cs t (0,0))
section
variable {w w':World} {g:Nat} {t:TypeId} {cs:Array Value}
theorem Blk.lt (h:Blk w g t cs):g < w.heap.size:=by
 rcases Nat.lt_or_ge g w.heap.size with hlt | hge
 ·exact hlt
 ·unfold Blk at h; rw [Array.getElem?_eq_none hge] at h; cases h
theorem Blk.cell (h:Blk w g t cs) (i:Nat):w.cell? ⟨g,i,none⟩ = cs[i]?:=cell_of_row w g i cs t (0,0) h
theorem Blk.frozen (h:Blk w g t cs) (i:Nat):w.frozen? ⟨g,i,none⟩ = false:=by
 unfold Blk at h
 simp [World.frozen?,h]
theorem Blk.new (w:World) (t:TypeId) (cs:Array Value):Blk (w.alloc (.cells cs t)) w.heap.size t cs:=heap_alloc_new w _
theorem Blk.drewN (h:Blk w g t cs) (n:Nat):Blk (w.drewN n) g t cs:=h
theorem Blk.drew (h:Blk w g t cs):Blk w.drew g t cs:=h
theorem Blk.alloc (h:Blk w g t cs) (o:Obj):Blk (w.alloc o) g t cs:=(Below.heap_alloc w o g h.lt).trans h
theorem Blk.set_ (h:Blk w g t cs) (i:Nat) (u:Value):Blk (w.setCell ⟨g,i,none⟩ u) g t (cs.setIfInBounds i u):=by
 unfold Blk at h ⊢
 simp [World.setCell,Array.getElem?_modify,h]
theorem Blk.far (h:Blk w g t cs) {p:Addr} (hp:g ≠ p.block) (u:Value):Blk (w.setCell p u) g t cs:=(Below.heap_setCell w p u g hp).trans h
theorem Blk.below {B:Nat} (h:Blk w g t cs) (hb:Below B w w') (hg:g < B):Blk w' g t cs:=(hb.block g hg).trans h
theorem Blk.grown {row:Option Nat} (h:Blk w g t cs) (hb:w.grownBy w' row) (hg:some g ≠ row):Blk w' g t cs:=(hb.block g h.lt hg).trans h
theorem Blk.ne_ {g':Nat} {t':TypeId} {cs':Array Value} (h:Blk w g t cs) (h':Blk w g' t' cs') (hne:t ≠ t'):g ≠ g':=by
 rintro rfl
 unfold Blk at h h'
 rw [h] at h'
 injection h' with h'
 injection h' with _ ht
 exact hne ht
theorem Blk.c3 {a b c:Value} (h:Blk w g t #[a,b,c]):w.cell? ⟨g,0,none⟩ = some a ∧ w.cell? ⟨g,1,none⟩ = some b ∧ w.cell? ⟨g,2,none⟩ = some c ∧ ∀ i,w.frozen? ⟨g,i,none⟩ = false:=
 ⟨h.cell 0,h.cell 1,h.cell 2,h.frozen⟩
end


def BB:Nat:=1000000000
theorem BB_eq:BB = 1000000000:=rfl

def Dg (k:IntKind) (w:World) (a:Option Addr) (ds:List Nat):Prop:=
 0 < ds.length → ∃ b off,a = some ⟨b,off,none⟩ ∧ ∀ i (h:i < ds.length),w.cell? ⟨b,off + i,none⟩ = some (.int k (ds[i]:Int))

theorem Dg.nil {k:IntKind} (w:World) (a:Option Addr):Dg k w a []:=fun h=>by simp at h
theorem Dg.below {k:IntKind} {w w':World} {B:Nat} {a:Option Addr} {ds:List Nat} (h:Dg k w a ds) (hb:Below B w w') (hB:w.heap.size ≤ B):Dg k w' a ds:=by
 intro hn
 obtain ⟨b,off,e,hc⟩:=h hn
 have hlt:b < B:=by
  have:=World.block_lt_of_cell? w _ (hc 0 hn)
  simp at this
  omega
 exact ⟨b,off,e,fun i hi=>(hb.cell (by simpa using hlt)).trans (hc i hi)⟩
theorem Dg.drewN {k:IntKind} {w:World} {a:Option Addr} {ds:List Nat} (h:Dg k w a ds) (n:Nat):Dg k (w.drewN n) a ds:=h
theorem Dg.take {k:IntKind} {w:World} {a:Option Addr} {ds:List Nat} (h:Dg k w a ds) (n:Nat):Dg k w a (ds.take n):=by
 intro hn
 obtain ⟨b,off,e,hc⟩:=h (by simp at hn; omega)
 exact ⟨b,off,e,fun i hi=>by simpa using hc i (by simp at hi; omega)⟩
theorem Dg.at {k:IntKind} {w:World} {a:Option Addr} {ds:List Nat} (h:Dg k w a ds) {i:Nat} (hi:i < ds.length):∃ b off,a = some ⟨b,off,none⟩ ∧ w.cell? ⟨b,off + i,none⟩ = some (.int k (ds[i]:Int)) ∧ b < w.heap.size:=by
 obtain ⟨b,off,e,hc⟩:=h (by omega)
 have:=World.block_lt_of_cell? w _ (hc i hi)
 exact ⟨b,off,e,hc i hi,by simpa using this⟩

def dcells (k:IntKind) (ds:List Nat):List Value:=ds.map fun (d:Nat)=>Value.int k (d:Int)
theorem dcells_len (k:IntKind) (ds:List Nat):(dcells k ds).length = ds.length:=by simp [dcells]
theorem dcells_app (k:IntKind) (a b:List Nat):dcells k (a ++ b) = dcells k a ++ dcells k b:=by simp [dcells]
theorem dcells_one (k:IntKind) (ds:List Nat):∀ u ∈ dcells k ds,u.oneCell' = true:=by
 intro u hu
 simp [dcells] at hu
 obtain ⟨x,_,rfl⟩:=hu
 rfl

def Fit (a:Option Addr) (n cap:Nat):Prop:=n ≤ cap ∧ (a = none → cap = 0)

def IntV (w:World) (v:Value) (z:Int):Prop:=
 ∃ a cap,v = .agg #[.bool (decide (z < 0)),.slice a (dg BB z.natAbs).length cap] ∧ Fit a (dg BB z.natAbs).length cap ∧ Dg .u32 w a (dg BB z.natAbs)
def len (z:Int):Nat:=(dg BB z.natAbs).length

theorem IntV.below {w w':World} {B:Nat} {v:Value} {z:Int} (h:IntV w v z) (hb:Below B w w') (hB:w.heap.size ≤ B):IntV w' v z:=by
 obtain ⟨a,cap,e,hc,hd⟩:=h
 exact ⟨a,cap,e,hc,hd.below hb hB⟩
theorem IntV.drewN {w:World} {v:Value} {z:Int} (h:IntV w v z) (n:Nat):IntV (w.drewN n) v z:=h
theorem IntV.zero (w:World):IntV w (.agg #[.bool false,.slice none 0 0]) 0:=⟨none,0,rfl,⟨Nat.zero_le _,fun _=>rfl⟩,Dg.nil _ _⟩

theorem below_drewN {B:Nat} {w w':World} (h:Below B w w') (n:Nat):Below B w (w'.drewN n):=⟨h.os,h.tape,h.output,h.size,h.block⟩
theorem below_of_grown {w w':World} {base:Nat} {row:Option Nat} (h:w.grownBy w' row) (hr:∀ g,row = some g → base ≤ g) (hb:base ≤ w.heap.size):Below base w w':=
 ⟨h.os,h.tape,h.output,h.size,fun i hi=>h.block i (Nat.lt_of_lt_of_le hi hb) (fun e=>by have:=hr i e.symm; omega)⟩
theorem Blk.c2 {w:World} {g:Nat} {t:TypeId} {a b:Value} (h:Blk w g t #[a,b]):w.cell? ⟨g,0,none⟩ = some a ∧ w.cell? ⟨g,1,none⟩ = some b ∧ ∀ i,w.frozen? ⟨g,i,none⟩ = false:=
 ⟨h.cell 0,h.cell 1,h.frozen⟩

def IntPost (w:World) (z:Int) (e:Ending) (w':World):Prop:=∃ r,e = .returned r ∧ IntV w' r z ∧ Below w.heap.size w w'

theorem BB2:2 ≤ BB:=by decide
def rightB (neg:Bool) (ds:List Nat):Bool:=if ds.isEmpty then !neg else ds.all (fun d=>decide (d < BB)) && !(ds.getLastD 1 == 0)
theorem rightB_dg (z:Int):rightB (decide (z < 0)) (dg BB z.natAbs) = true:=by
 unfold rightB
 split
 ·rename_i h
  have h0:z.natAbs = 0:=(dg_eq_nil BB2).1 (by simpa using h)
  simp; omega
 ·have hc:=dg_canon BB2 z.natAbs
  rw [Bool.and_eq_true]
  refine ⟨List.all_eq_true.2 fun x hx=>decide_eq_true (hc.1 x hx),?_⟩
  rename_i hne
  rcases snoc_cases (dg BB z.natAbs) with h | ⟨r,d,h⟩
  ·rw [h] at hne; simp at hne
  ·rw [h] at hc ⊢
   have:=hc.2
   simp at this ⊢
   exact this
theorem rightB_canon {neg:Bool} {ds:List Nat} (h:rightB neg ds = true):Canon BB ds ∧ (ds = [] → neg = false):=by
 unfold rightB at h
 split at h
 ·rename_i h0
  obtain rfl:ds = []:=by simpa using h0
  exact ⟨Canon.nil _,fun _=>by simpa using h⟩
 ·rename_i h0
  rw [Bool.and_eq_true] at h
  refine ⟨⟨fun x hx=>of_decide_eq_true (List.all_eq_true.1 h.1 x hx),?_⟩,fun e=>by rw [e] at h0; simp at h0⟩
  rcases snoc_cases ds with rfl | ⟨r,d,rfl⟩
  ·simp
  ·have:=h.2
   simp at this ⊢
   exact this
def signZ (neg:Bool) (n:Nat):Int:=if neg then -(n:Int) else (n:Int)
theorem rightB_val {neg:Bool} {ds:List Nat} (h:rightB neg ds = true):∃ z:Int,neg = decide (z < 0) ∧ ds = dg BB z.natAbs:=by
 obtain ⟨hc,h0⟩:=rightB_canon h
 refine ⟨signZ neg (val BB ds),?_,?_⟩
 ·cases neg with
  | false=>simp [signZ]
  | true=>
   have hne:ds ≠ []:=fun e=>by have:=h0 e; cases this
   have:=hc.pos (by decide) hne
   simp [signZ]; omega
 ·have e:(signZ neg (val BB ds)).natAbs = val BB ds:=by cases neg <;> simp [signZ]
  rw [e]
  exact hc.eq_dg BB2

set_option maxRecDepth 100000 in
theorem run_upto (w:World) (t n:Nat) (ht:Try.prog.underlying t = some (.slice (Try.prog.elem t))) (hs:(sizeOf (Try.prog.elem t)).run Try.prog w = .ok n w) (a:Option Addr) (len cap h:Nat) (y:Int) (hy:y = (h:Int)) (h2:h ≤ cap) :
  (Instr.slice t (.slice a len cap) none (some (.int .i64 y)) none).run Try.prog w = .ok (.slice a h cap) w:=by
 subst hy
 rw [run_slice_h (P:=Try.prog) w t a len cap ht .i64 (h:Int) (by omega) (by omega),hs]
 simp only [Result.andThen,sliced]
 congr 1
 split
 ·simp
 ·cases a <;> simp [Addr.add]
theorem size_u32 (w:World):(sizeOf 85).run Try.prog w = .ok 1 w:=by kernel_rfl
theorem elem32:Try.prog.elem 36 = 85:=by kernel_rfl
theorem run_upto32 (w:World) (a:Option Addr) (len cap h:Nat) (y:Int) (hy:y = (h:Int)) (h2:h ≤ cap) :
  (Instr.slice 36 (.slice a len cap) none (some (.int .i64 y)) none).run Try.prog w = .ok (.slice a h cap) w:=
 run_upto w 36 1 (by rw [elem32]; exact Try.underlying36) (by rw [elem32]; exact size_u32 w) a len cap h y hy h2

theorem drew2 {w:World} {n m:Nat}:∃ k,(w.drewN n).drewN m = w.drewN k:=⟨_,World.drewN_drewN _ _ _⟩
theorem drew3 {w:World} {n m l:Nat}:∃ k,((w.drewN n).drewN m).drewN l = w.drewN k:=⟨n + (m + l),by rw [World.drewN_drewN,World.drewN_drewN]⟩

def Sm (z:Int):Prop:=len z ≤ 1099511627776

def ordZ (m n:Int):Int:=if m < n then -1 else if n < m then 1 else 0

set_option maxHeartbeats 800000 in
theorem Right_any (neg:Bool) (a:Option Addr) (cap:Nat) (ds:List Nat) (w:World) (hd:Dg .u32 w a ds) (hn:ds.length ≤ 9223372036854775807) :
  Calls Try.prog 24 #[.agg #[.bool neg,.slice a ds.length cap]] w fun e w'=>e = .returned (.bool (rightB neg ds)) ∧ Below w.heap.size w w':=by
 generalize hr:rightB neg ds = r
 have HR:=hide hr
 clear hr
 have hb0:Below w.heap.size w (w.alloc (.cells #[.bool neg,.slice a ds.length cap] 38)):=(Below.refl _ _).alloc (Nat.le_refl _) _
 have hX:=Blk.new w 38 #[.bool neg,.slice a ds.length cap]
 have hd0:=hd.below hb0 (Nat.le_refl _)
 rcases Nat.eq_zero_or_pos ds.length with h0 | h0
 ·obtain rfl:=List.eq_nil_of_length_eq_zero h0
  go_enter Try.func24,Try.ntmps24
  go_wp2_with fail
  go_ret
  exact ⟨by rw [← HR.out]; rfl,hb0⟩
 ·have e0:((ds.length:Int) == 0) = false:=beq_eq_false_iff_ne.2 (by omega)
  go_enter Try.func24,Try.ntmps24
  go_wp2_with fail
  generalize hW:w.alloc (.cells #[.bool neg,.slice a ds.length cap] 38) = W at hb0 hX hd0 ⊢
  clear hW
  obtain ⟨c0,c1,-⟩:=hX.c2
  go_loop [15] (fun v=>∃ j:Nat,j ≤ ds.length ∧ v = .int .i64 (j:Int) ∧ (ds.take j).all (fun d=>decide (d < BB)) = true) (fun v=>ds.length - (intOf v).toNat)
  case atStart=>exact ⟨0,Nat.zero_le _,rfl,by simp⟩
  case round=>
   obtain ⟨j,hj,rfl,hall⟩:=hrel
   have HA:=hide hall
   clear hall
   rcases Nat.lt_or_ge j ds.length with hlt | hge
   ·obtain ⟨b,off,rfl,hc,_⟩:=hd0.at hlt
    have hsn:=List.take_succ_eq_append_getElem hlt
    have hmem:ds[j] ∈ ds:=List.getElem_mem hlt
    by_cases hbig:ds[j] < BB
    ·have hlt2:¬ (1000000000:Int) ≤ (ds[j]:Int):=by have:=BB_eq; omega
     have HN:Hid ((ds.take (j + 1)).all (fun d=>decide (d < BB)) = true):=hide (by rw [hsn,List.all_append,HA.out]; simp [hbig])
     generalize ds[j] = d at hc hlt2
     clear hsn hmem hbig
     go_wp2_with fail
     go_round
     case rel=>exact ⟨j + 1,by omega,by go_num,HN.out⟩
     case measure=>simp [intOf]; omega
    ·have hge2:(1000000000:Int) ≤ (ds[j]:Int):=by have:=BB_eq; omega
     have hf:rightB neg ds = false:=by
      unfold rightB
      rw [if_neg (by intro h; rw [List.isEmpty_iff.1 h] at h0; simp at h0)]
      have:ds.all (fun d=>decide (d < BB)) = false:=by
       rw [List.all_eq_false]
       exact ⟨_,hmem,by simpa using hbig⟩
      rw [this]; rfl
     have HF:=hide hf
     generalize ds[j] = d at hc hge2
     clear hsn hmem hbig hf
     go_wp2_with fail
     go_ret
     exact ⟨by rw [← HR.out,HF.out]; rfl,hb0⟩
   ·obtain rfl:j = ds.length:=by omega
    obtain ⟨b,off,rfl,hc,_⟩:=hd0.at (i:=ds.length - 1) (by omega)
    have hl:ds.getLastD 1 = ds[ds.length - 1]:=by
     rcases snoc_cases ds with rfl | ⟨r,d,rfl⟩
     ·simp at h0
     ·simp
    have hv:rightB neg ds = !(ds[ds.length - 1] == 0):=by
     unfold rightB
     rw [if_neg (by intro h; rw [List.isEmpty_iff.1 h] at h0; simp at h0)]
     have h:=HA.out
     rw [List.take_length] at h
     rw [h,hl]; rfl
    have HV:=hide hv
    generalize ds[ds.length - 1] = d at hc HV
    clear hl hv
    cases hz:(d == 0) with
    | true=>
     obtain rfl:d = 0:=by simpa using hz
     go_wp2_with fail
     go_ret
     exact ⟨by rw [← HR.out,HV.out]; rfl,hb0⟩
    | false=>
     have e1:((d:Int) != 0) = true:=by simp at hz ⊢; omega
     have e2:((d:Int) == 0) = false:=by simp at hz ⊢; omega
     go_wp2_with fail
     go_ret
     exact ⟨by rw [← HR.out,HV.out,hz]; rfl,hb0⟩

theorem trim_take {ds:List Nat} {j:Nat} (hj:j < ds.length) (h:ds[j] = 0):trim (ds.take (j + 1)) = trim (ds.take j):=by
 rw [List.take_succ_eq_append_getElem hj,h,trim_snoc_zero]
theorem trim_take_self {ds:List Nat} {j:Nat} (hj:j < ds.length) (h:ds[j] ≠ 0):trim (ds.take (j + 1)) = ds.take (j + 1):=by
 rw [List.take_succ_eq_append_getElem hj,trim_snoc h]
theorem signZ_abs (neg:Bool) (n:Nat):(signZ neg n).natAbs = n:=by cases neg <;> simp [signZ]
theorem signZ_neg {neg:Bool} {n:Nat} (h:n ≠ 0):decide (signZ neg n < 0) = neg:=by cases neg <;> simp [signZ] <;> omega

theorem Blk.two {w:World} {g:Nat} {t:TypeId} {a b:Value} (h:Blk w g t #[a,b]) (x y:Value):Blk ((w.setCell ⟨g,0,none⟩ x).setCell ⟨g,1,none⟩ y) g t #[x,y]:=(h.set_ 0 x).set_ 1 y

theorem intV_of {w:World} {neg:Bool} {a:Option Addr} {cap n:Nat} {ds:List Nat} (hD:Digs BB ds) (hd:Dg .u32 w a (trim ds)) (hn:n = (trim ds).length) (hc:Fit a n cap) (h0:trim ds = [] → neg = false):IntV w (.agg #[.bool neg,.slice a n cap]) (signZ neg (val BB ds)):=by
 subst hn
 have e:=trim_dg BB2 hD
 have h1:decide (signZ neg (val BB ds) < 0) = neg:=by
  rcases Nat.eq_zero_or_pos (val BB ds) with hz | hz
  ·have:trim ds = []:=by rw [e,hz]; rfl
   rw [h0 this,hz]; rfl
  ·exact signZ_neg (by omega)
 unfold IntV
 rw [signZ_abs,← e,h1]
 exact ⟨a,cap,rfl,hc,hd⟩

set_option maxHeartbeats 800000 in
theorem signed_any (neg:Bool) (a:Option Addr) (cap:Nat) (ds:List Nat) (w:World) (hd:Dg .u32 w a ds) (hD:Digs BB ds) (hfit:ds.length ≤ cap) (hn:ds.length ≤ 4611686018427387904) :
  Calls Try.prog 43 #[.bool neg,.slice a ds.length cap] w (IntPost w (signZ neg (val BB ds))):=by
 generalize hP:IntPost w (signZ neg (val BB ds)) = Post
 have HP:=hide hP
 clear hP
 have hb0:Below w.heap.size w (w.alloc (.cells #[.bool false,.slice none 0 0] 38)):=(Below.refl _ _).alloc (Nat.le_refl _) _
 have hX:=Blk.new w 38 #[.bool false,.slice none 0 0]
 have hd0:=hd.below hb0 (Nat.le_refl _)
 go_enter Try.func43,Try.ntmps43
 go_wp2_with fail
 generalize hW:w.alloc (.cells #[.bool false,.slice none 0 0] 38) = W at hb0 hX hd0 ⊢
 clear hW
 obtain ⟨c0,c1,cf⟩:=hX.c2
 have hlt:=hX.lt
 go_loop [5] (fun v=>∃ j:Nat,j ≤ ds.length ∧ v = .int .i64 (j:Int) ∧ Hid (trim ds = trim (ds.take j))) (fun v=>(intOf v).toNat)
 case atStart=>exact ⟨ds.length,Nat.le_refl _,rfl,hide (by rw [List.take_length])⟩
 case round=>
  obtain ⟨j,hj,rfl,HT⟩:=hrel
  rcases Nat.eq_zero_or_pos j with h0 | h0
  ·subst h0
   have hz:val BB ds = 0:=by rw [← trim_val,HT.out]; rfl
   have HZ:=hide hz
   clear hz
   go_wp2_with fail
   obtain ⟨d0,d1,-⟩:=(hX.two (.bool false) (.slice none 0 0)).c2
   refine bodyPost_ret (v:=.agg #[.bool false,.slice none 0 0]) (by simp [results,Try.results43,go_sem,d0,d1]) rfl ?_
   rw [← HP.out,HZ.out]
   exact ⟨_,rfl,by cases neg <;> exact IntV.zero _,(hb0.setCell (Nat.le_refl _) _).setCell (Nat.le_refl _) _⟩
  ·obtain ⟨i,rfl⟩:∃ i,j = i + 1:=⟨j - 1,by omega⟩
   have hi:i < ds.length:=by omega
   obtain ⟨b,off,rfl,hc,_⟩:=hd0.at hi
   have hpos:decide ((0:Int) < ((i + 1:Nat):Int)) = true:=by simp
   by_cases hz:ds[i] = 0
   ·have HT2:Hid (trim ds = trim (ds.take i)):=hide (by rw [HT.out,trim_take hi hz])
    rw [hz] at hc
    go_wp2_with fail
    go_round
    case rel=>exact ⟨i,by omega,by go_num,HT2⟩
    case measure=>simp [intOf]
   ·have HT2:Hid (trim ds = ds.take (i + 1)):=hide (by rw [HT.out,trim_take_self hi hz])
    have e1:((ds[i]:Int) == 0) = false:=beq_eq_false_iff_ne.2 (by omega)
    have e3:(((i + 1:Nat):Int) == 0) = false:=beq_eq_false_iff_ne.2 (by omega)
    have hs1:=fun w=>run_upto32 w (some ⟨b,off,none⟩) ds.length cap (i + 1) ((i + 1:Nat):Int) rfl (by omega)
    generalize ds[i] = d at hc e1
    go_wp2_with fail
    obtain ⟨d0,d1,-⟩:=(hX.two (.bool neg) (.slice (some ⟨b,off,none⟩) (i + 1) cap)).c2
    refine bodyPost_ret (v:=.agg #[.bool neg,.slice (some ⟨b,off,none⟩) (i + 1) cap]) (by simp [results,Try.results43,go_sem,d0,d1]) rfl ?_
    have hB2:=(hb0.setCell (p:=⟨w.heap.size,0,none⟩) (Nat.le_refl _) (.bool neg)).setCell (p:=⟨w.heap.size,1,none⟩) (Nat.le_refl _) (.slice (some ⟨b,off,none⟩) (i + 1) cap)
    rw [← HP.out]
    refine ⟨_,rfl,intV_of hD ?_ ?_ ⟨by omega,fun h=>by cases h⟩ ?_,hB2⟩
    ·rw [HT2.out]; exact (hd.below hB2 (Nat.le_refl _)).take _
    ·rw [HT2.out,List.length_take]; omega
    ·rw [HT2.out]
     intro h
     have:=congrArg List.length h
     rw [List.length_take,List.length_nil] at this
     omega

theorem right_any {x:Int} {v:Value} (w:World) (hx:IntV w v x) (hn:Sm x) :
  Calls Try.prog 42 #[v] w fun e w'=>e = .returned v ∧ Below w.heap.size w w':=by
 obtain ⟨a,cap,rfl,hc,hd⟩:=hx
 have HR:=hide (rightB_dg x)
 unfold Sm len at hn
 replace hn:(dg BB x.natAbs).length ≤ 4611686018427387904:=by omega
 generalize dg BB x.natAbs = ds at *
 generalize decide (x < 0) = neg at *
 go_enter Try.func42,Try.ntmps42
 go_wp2_with fail
 have hb0:Below w.heap.size w ((w.alloc (.cells #[.bool neg,.slice a ds.length cap] 38)).alloc (.cells #[.bool false,.slice none 0 0] 38)):=((Below.refl _ _).alloc (Nat.le_refl _) _).alloc (by simp) _
 have hX:=(Blk.new w 38 #[.bool neg,.slice a ds.length cap]).alloc (.cells #[.bool false,.slice none 0 0] 38)
 have hY:=Blk.new (w.alloc (.cells #[.bool neg,.slice a ds.length cap] 38)) 38 #[.bool false,.slice none 0 0]
 rw [World.size_alloc] at hY
 generalize (w.alloc (.cells #[.bool neg,.slice a ds.length cap] 38)).alloc (.cells #[.bool false,.slice none 0 0] 38) = W at hb0 hX hY ⊢
 refine (Right_any neg a cap ds W (hd.below hb0 (Nat.le_refl _)) (by omega)).mono ?_
 rintro e w1 ⟨rfl,hb1⟩
 rw [HR.out]
 replace hX:=hX.below hb1 hX.lt
 replace hY:=hY.below hb1 hY.lt
 have hB1:Below w.heap.size w w1:=hb0.trans (hb1.mono hb0.size)
 clear hb0 hb1
 obtain ⟨c0,c1,-⟩:=hX.c2
 obtain ⟨d0,d1,df⟩:=hY.c2
 have hlt:=hY.lt
 go_wp2_with fail
 obtain ⟨d0,d1,-⟩:=(hY.two (.bool neg) (.slice a ds.length cap)).c2
 refine bodyPost_ret (v:=.agg #[.bool neg,.slice a ds.length cap]) (by simp [results,Try.results42,go_sem,d0,d1]) rfl ?_
 exact ⟨rfl,(hB1.setCell (by simp) _).setCell (by simp) _⟩

theorem cmp_at {x y:List Nat} (hx:Digs BB x) (hl:x.length = y.length) {i:Nat} (hi:i < x.length) (hs:x.drop (i + 1) = y.drop (i + 1)) (h:x[i] < y[i]'(by omega)):val BB x < val BB y:=by
 have e1:=val_take_drop BB x i (by omega)
 have e2:=val_take_drop BB y i (by omega)
 rw [List.drop_eq_getElem_cons hi,val] at e1
 rw [List.drop_eq_getElem_cons (show i < y.length by omega),val] at e2
 have hlt:=val_lt (hx.take i)
 rw [List.length_take,Nat.min_eq_left (by omega)] at hlt
 rw [hs] at e1
 have hm:BB ^ i * (x[i] + 1 + BB * val BB (y.drop (i + 1))) ≤ BB ^ i * (y[i] + BB * val BB (y.drop (i + 1))):=Nat.mul_le_mul_left _ (by omega)
 have e3:BB ^ i * (x[i] + 1 + BB * val BB (y.drop (i + 1))) = BB ^ i * (x[i] + BB * val BB (y.drop (i + 1))) + BB ^ i:=by
  rw [show x[i] + 1 + BB * val BB (y.drop (i + 1)) = (x[i] + BB * val BB (y.drop (i + 1))) + 1 by omega,Nat.mul_add,Nat.mul_one]
 omega

set_option maxHeartbeats 800000 in
theorem compare_any (a b:Option Addr) (ca cb:Nat) (x y:List Nat) (w:World) (hx:Dg .u32 w a x) (hy:Dg .u32 w b y) (cx:Canon BB x) (cy:Canon BB y) (hn:x.length ≤ 4611686018427387904) :
  Calls Try.prog 45 #[.slice a x.length ca,.slice b y.length cb] w fun e w'=>e = .returned (.int .i64 (ordZ (val BB x) (val BB y))) ∧ ∃ n,w' = w.drewN n:=by
 generalize hr:ordZ (val BB x) (val BB y) = r
 have HR:=hide hr
 clear hr
 by_cases hl:x.length = y.length
 ·have e0:((x.length:Int) != (y.length:Int)) = false:=by simp; omega
  have e0':((x.length:Int) == (y.length:Int)) = true:=by simp; omega
  have HL:=hide hl
  clear hl
  go_enter Try.func45,Try.ntmps45
  go_wp2_with fail
  go_loopg [5] x.length (fun k v wr=>∃ n:Nat,v = .int .i64 ((k:Int) - 1) ∧ k ≤ x.length ∧ Hid (x.drop k = y.drop k) ∧ wr = w.drewN n)
  case atStart=>exact ⟨0,by have:=HL.out; simp <;> omega,Nat.le_refl _,hide (by rw [List.drop_length,HL.out,List.drop_length]),rfl⟩
  case round=>
   obtain ⟨n,rfl,hk,HD,rfl⟩:=hrel
   rcases gk with _ | k
   ·have hxy:x = y:=by have:=HD.out; simpa using this
    have HV:Hid (ordZ (val BB x) (val BB y) = 0):=hide (by rw [hxy]; unfold ordZ; rw [if_neg (by omega),if_neg (by omega)])
    clear hxy
    rw [show (((0:Nat):Int) - 1) = -1 by omega]
    go_wp2_with fail
    go_ret
    exact ⟨by rw [← HR.out,HV.out]; rfl,n,rfl⟩
   ·have hk1:k < x.length:=by omega
    have hk2:k < y.length:=by have:=HL.out; omega
    obtain ⟨p,po,rfl,hc,_⟩:=hx.at hk1
    obtain ⟨q,qo,rfl,hd,_⟩:=hy.at hk2
    have HU1:Hid (x[k] < y[k] → ordZ (val BB x) (val BB y) = -1):=hide (fun h=>by
     have:=cmp_at cx.1 HL.out hk1 HD.out h
     unfold ordZ; rw [if_pos (by omega)])
    have HU2:Hid (y[k] < x[k] → ordZ (val BB x) (val BB y) = 1):=hide (fun h=>by
     have:=cmp_at cy.1 HL.out.symm hk2 HD.out.symm h
     unfold ordZ; rw [if_neg (by omega),if_pos (by omega)])
    have HU3:Hid (x[k] = y[k] → x.drop k = y.drop k):=hide (fun h=>by
     rw [List.drop_eq_getElem_cons hk1,List.drop_eq_getElem_cons hk2,h,HD.out])
    generalize x[k] = c at hc HU1 HU2 HU3
    generalize y[k] = d at hd HU1 HU2 HU3
    rw [show (((k + 1:Nat):Int) - 1) = (k:Int) by omega]
    clear HD
    rcases Nat.lt_trichotomy c d with h | h | h
    ·have t1:decide ((c:Int) < (d:Int)) = true:=by simp; omega
     have t1':decide (c < d) = true:=by simp; omega
     have HV:=hide (HU1.out h)
     clear HU1 HU2 HU3 h
     go_wp2_with fail
     go_quiet (fail)
     go_wp2_with fail
     go_ret
     exact ⟨by rw [← HR.out,HV.out]; rfl,drew2⟩
    ·subst h
     have HV:=hide (HU3.out rfl)
     clear HU1 HU2 HU3
     have t1:decide ((c:Int) < (c:Int)) = false:=by simp
     go_wp2_with fail
     go_quiet (fail)
     go_wp2_with fail
     go_quiet (fail)
     go_wp2_with fail
     go_roundg k
     case measure=>omega
     case rel=>exact ⟨_,by go_num,by omega,HV,rfl⟩
    ·have t1:decide ((c:Int) < (d:Int)) = false:=by simp; omega
     have t2:decide ((d:Int) < (c:Int)) = true:=by simp; omega
     have t1':decide (c < d) = false:=by simp; omega
     have t2':decide (d < c) = true:=by simp; omega
     have HV:=hide (HU2.out h)
     clear HU1 HU2 HU3 h
     go_wp2_with fail
     go_quiet (fail)
     go_wp2_with fail
     go_quiet (fail)
     go_wp2_with fail
     go_ret
     exact ⟨by rw [← HR.out,HV.out]; rfl,drew3⟩
 ·have e0:((x.length:Int) != (y.length:Int)) = true:=by simp; omega
  have e0':((x.length:Int) == (y.length:Int)) = false:=by simp; omega
  rcases Nat.lt_or_gt_of_ne hl with h | h
  ·have hlt:(x.length:Int) < (y.length:Int):=by omega
   have HV:Hid (ordZ (val BB x) (val BB y) = -1):=hide (by have:=cx.lt_of_len cy h; unfold ordZ; rw [if_pos (by omega)])
   clear hl h
   go_enter Try.func45,Try.ntmps45
   go_wp2_with fail
   go_ret
   exact ⟨by rw [← HR.out,HV.out]; rfl,0,rfl⟩
  ·have hlt:¬ (x.length:Int) < (y.length:Int):=by omega
   have HV:Hid (ordZ (val BB x) (val BB y) = 1):=hide (by have:=cy.lt_of_len cx h; unfold ordZ; rw [if_neg (by omega),if_pos (by omega)])
   clear hl h
   go_enter Try.func45,Try.ntmps45
   go_wp2_with fail
   go_ret
   exact ⟨by rw [← HR.out,HV.out]; rfl,0,rfl⟩

theorem keepTwo {w c w1:World} {g2 g3:Nat} {p q p' q':Value} (h:c.cell? ⟨g2,0,none⟩ = some p ∧ c.cell? ⟨g2,1,none⟩ = some q ∧ c.cell? ⟨g3,0,none⟩ = some p' ∧ c.cell? ⟨g3,1,none⟩ = some q' ∧ c.frozen? ⟨g2,0,none⟩ = false ∧ c.frozen? ⟨g2,1,none⟩ = false ∧ c.frozen? ⟨g3,0,none⟩ = false ∧ c.frozen? ⟨g3,1,none⟩ = false ∧ Below w.heap.size w c) (hb:Below c.heap.size c w1) :
  w1.cell? ⟨g2,0,none⟩ = some p ∧ w1.cell? ⟨g2,1,none⟩ = some q ∧ w1.cell? ⟨g3,0,none⟩ = some p' ∧ w1.cell? ⟨g3,1,none⟩ = some q' ∧ w1.frozen? ⟨g2,0,none⟩ = false ∧ w1.frozen? ⟨g2,1,none⟩ = false ∧ w1.frozen? ⟨g3,0,none⟩ = false ∧ w1.frozen? ⟨g3,1,none⟩ = false ∧ Below w.heap.size w w1:=by
 obtain ⟨h1,h2,h3,h4,f1,f2,f3,f4,hB⟩:=h
 have l2:=World.block_lt_of_cell? c _ h1
 have l3:=World.block_lt_of_cell? c _ h3
 exact ⟨(hb.cell l2).trans h1,(hb.cell (p:=⟨g2,1,none⟩) l2).trans h2,(hb.cell l3).trans h3,(hb.cell (p:=⟨g3,1,none⟩) l3).trans h4,(hb.frozen l2).trans f1,(hb.frozen (p:=⟨g2,1,none⟩) l2).trans f2,(hb.frozen l3).trans f3,(hb.frozen (p:=⟨g3,1,none⟩) l3).trans f4,hB.trans (hb.mono hB.size)⟩
theorem keepA {w c:World} {g2 g3:Nat} {p q p' q':Value} (hw:w.heap.size ≤ g2) (hne:g2 ≠ g3) (h:c.cell? ⟨g2,0,none⟩ = some p ∧ c.cell? ⟨g2,1,none⟩ = some q ∧ c.cell? ⟨g3,0,none⟩ = some p' ∧ c.cell? ⟨g3,1,none⟩ = some q' ∧ c.frozen? ⟨g2,0,none⟩ = false ∧ c.frozen? ⟨g2,1,none⟩ = false ∧ c.frozen? ⟨g3,0,none⟩ = false ∧ c.frozen? ⟨g3,1,none⟩ = false ∧ Below w.heap.size w c) :
  ((c.setCell ⟨g2,0,none⟩ p).setCell ⟨g2,1,none⟩ q).cell? ⟨g2,0,none⟩ = some p ∧ ((c.setCell ⟨g2,0,none⟩ p).setCell ⟨g2,1,none⟩ q).cell? ⟨g2,1,none⟩ = some q ∧ ((c.setCell ⟨g2,0,none⟩ p).setCell ⟨g2,1,none⟩ q).cell? ⟨g3,0,none⟩ = some p' ∧ ((c.setCell ⟨g2,0,none⟩ p).setCell ⟨g2,1,none⟩ q).cell? ⟨g3,1,none⟩ = some q' ∧ ((c.setCell ⟨g2,0,none⟩ p).setCell ⟨g2,1,none⟩ q).frozen? ⟨g2,0,none⟩ = false ∧ ((c.setCell ⟨g2,0,none⟩ p).setCell ⟨g2,1,none⟩ q).frozen? ⟨g2,1,none⟩ = false ∧ ((c.setCell ⟨g2,0,none⟩ p).setCell ⟨g2,1,none⟩ q).frozen? ⟨g3,0,none⟩ = false ∧ ((c.setCell ⟨g2,0,none⟩ p).setCell ⟨g2,1,none⟩ q).frozen? ⟨g3,1,none⟩ = false ∧ Below w.heap.size w ((c.setCell ⟨g2,0,none⟩ p).setCell ⟨g2,1,none⟩ q):=by
 obtain ⟨h1,h2,h3,h4,f1,f2,f3,f4,hB⟩:=h
 refine ⟨?_,?_,?_,?_,by simpa using f1,by simpa using f2,by simpa using f3,by simpa using f4,(hB.setCell hw _).setCell hw _⟩
 ·rw [World.cell?_setCell_other _ _ _ _ (by simp)]; exact World.cell?_setCell_same _ _ _ h1
 ·exact World.cell?_setCell_same _ _ _ ((World.cell?_setCell_other _ _ _ _ (by simp)).trans h2)
 ·rw [World.cell?_setCell_other _ _ _ _ (fun e=>hne (congrArg Addr.block e)),World.cell?_setCell_other _ _ _ _ (fun e=>hne (congrArg Addr.block e))]; exact h3
 ·rw [World.cell?_setCell_other _ _ _ _ (fun e=>hne (congrArg Addr.block e)),World.cell?_setCell_other _ _ _ _ (fun e=>hne (congrArg Addr.block e))]; exact h4
theorem keepB {w c:World} {g2 g3:Nat} {p q p' q':Value} (hw:w.heap.size ≤ g3) (hne:g3 ≠ g2) (h:c.cell? ⟨g2,0,none⟩ = some p ∧ c.cell? ⟨g2,1,none⟩ = some q ∧ c.cell? ⟨g3,0,none⟩ = some p' ∧ c.cell? ⟨g3,1,none⟩ = some q' ∧ c.frozen? ⟨g2,0,none⟩ = false ∧ c.frozen? ⟨g2,1,none⟩ = false ∧ c.frozen? ⟨g3,0,none⟩ = false ∧ c.frozen? ⟨g3,1,none⟩ = false ∧ Below w.heap.size w c) :
  ((c.setCell ⟨g3,0,none⟩ p').setCell ⟨g3,1,none⟩ q').cell? ⟨g2,0,none⟩ = some p ∧ ((c.setCell ⟨g3,0,none⟩ p').setCell ⟨g3,1,none⟩ q').cell? ⟨g2,1,none⟩ = some q ∧ ((c.setCell ⟨g3,0,none⟩ p').setCell ⟨g3,1,none⟩ q').cell? ⟨g3,0,none⟩ = some p' ∧ ((c.setCell ⟨g3,0,none⟩ p').setCell ⟨g3,1,none⟩ q').cell? ⟨g3,1,none⟩ = some q' ∧ ((c.setCell ⟨g3,0,none⟩ p').setCell ⟨g3,1,none⟩ q').frozen? ⟨g2,0,none⟩ = false ∧ ((c.setCell ⟨g3,0,none⟩ p').setCell ⟨g3,1,none⟩ q').frozen? ⟨g2,1,none⟩ = false ∧ ((c.setCell ⟨g3,0,none⟩ p').setCell ⟨g3,1,none⟩ q').frozen? ⟨g3,0,none⟩ = false ∧ ((c.setCell ⟨g3,0,none⟩ p').setCell ⟨g3,1,none⟩ q').frozen? ⟨g3,1,none⟩ = false ∧ Below w.heap.size w ((c.setCell ⟨g3,0,none⟩ p').setCell ⟨g3,1,none⟩ q'):=by
 obtain ⟨h1,h2,h3,h4,f1,f2,f3,f4,hB⟩:=h
 obtain ⟨k3,k4,k1,k2,e3,e4,e1,e2,hB'⟩:=keepA hw hne ⟨h3,h4,h1,h2,f3,f4,f1,f2,hB⟩
 exact ⟨k1,k2,k3,k4,e1,e2,e3,e4,hB'⟩
theorem right_at {x:Int} {v:Value} {w c:World} (hx:IntV w v x) (hn:Sm x) (hB:Below w.heap.size w c) :
  Calls Try.prog 42 #[v] c fun e w'=>e = .returned v ∧ Below c.heap.size c w':=right_any c (hx.below hB (Nat.le_refl _)) hn

set_option maxRecDepth 100000 in
set_option maxHeartbeats 1600000 in
theorem Cmp_any {x y:Int} {u v:Value} (w:World) (hx:IntV w u x) (hy:IntV w v y) (hn:Sm x) (hm:Sm y) :
  Calls Try.prog 81 #[u,v] w fun e w'=>e = .returned (.int .i64 (ordZ x y)) ∧ Below w.heap.size w w':=by
 obtain ⟨a,ca,rfl,ha,hda⟩:=id hx
 obtain ⟨b,cb,rfl,hb,hdb⟩:=id hy
 generalize hr:ordZ x y = r
 have HR:=hide hr
 have HX:=hide hx
 have HY:=hide hy
 clear hr hx hy
 have hb0:Below w.heap.size w ((w.alloc (.cells #[.bool (decide (x < 0)),.slice a (dg BB x.natAbs).length ca] 38)).alloc (.cells #[.bool (decide (y < 0)),.slice b (dg BB y.natAbs).length cb] 38)):=((Below.refl _ _).alloc (Nat.le_refl _) _).alloc (by simp) _
 have hX:=(Blk.new w 38 #[.bool (decide (x < 0)),.slice a (dg BB x.natAbs).length ca]).alloc (.cells #[.bool (decide (y < 0)),.slice b (dg BB y.natAbs).length cb] 38)
 have hY:=Blk.new (w.alloc (.cells #[.bool (decide (x < 0)),.slice a (dg BB x.natAbs).length ca] 38)) 38 #[.bool (decide (y < 0)),.slice b (dg BB y.natAbs).length cb]
 rw [World.size_alloc] at hY
 go_enter Try.func81,Try.ntmps81
 go_upto_region 1 with (fail)
 generalize (w.alloc (.cells #[.bool (decide (x < 0)),.slice a (dg BB x.natAbs).length ca] 38)).alloc (.cells #[.bool (decide (y < 0)),.slice b (dg BB y.natAbs).length cb] 38) = W at hb0 hX hY ⊢
 have HX0:=HX.out
 have HY0:=HY.out
 obtain ⟨c0,c1,cf⟩:=hX.c2
 obtain ⟨d0,d1,df⟩:=hY.c2
 have hl2:=hX.lt
 have hl3:=hY.lt
 have hB0:Below w.heap.size w W.drew:=hb0.drew
 have hwA:w.heap.size ≤ w.heap.size:=Nat.le_refl _
 have hneA:w.heap.size ≠ w.heap.size + 1:=by omega
 have hwB:w.heap.size ≤ w.heap.size + 1:=by omega
 have hneB:w.heap.size + 1 ≠ w.heap.size:=by omega
 have f20:=cf 0
 have f21:=cf 1
 have f30:=df 0
 have f31:=df 1
 have cxn:=dg_canon BB2 x.natAbs
 have cyn:=dg_canon BB2 y.natAbs
 have hvx:=dg_val BB2 x.natAbs
 have hvy:=dg_val BB2 y.natAbs
 have hsx:(dg BB x.natAbs).length ≤ 4611686018427387904:=by unfold Sm len at hn; omega
 have hsy:(dg BB y.natAbs).length ≤ 4611686018427387904:=by unfold Sm len at hm; omega
 have H00:Hid (decide (x < 0) = false → decide (y < 0) = false → ordZ (val BB (dg BB x.natAbs)) (val BB (dg BB y.natAbs)) = ordZ x y):=hide (fun h1 h2=>by
  simp at h1 h2; rw [hvx,hvy,show (x.natAbs:Int) = x by omega,show (y.natAbs:Int) = y by omega])
 have H11:Hid (decide (x < 0) = true → decide (y < 0) = true → ordZ (val BB (dg BB y.natAbs)) (val BB (dg BB x.natAbs)) = ordZ x y):=hide (fun h1 h2=>by
  simp at h1 h2
  rw [hvx,hvy]
  unfold ordZ
  split <;> split <;> (try split) <;> omega)
 have H10:Hid (decide (x < 0) = true → decide (y < 0) = false → ordZ x y = -1):=hide (fun h1 h2=>by simp at h1 h2; unfold ordZ; rw [if_pos (by omega)])
 have H01:Hid (decide (x < 0) = false → decide (y < 0) = true → ordZ x y = 1):=hide (fun h1 h2=>by simp at h1 h2; unfold ordZ; rw [if_neg (by omega),if_pos (by omega)])
 clear hvx hvy
 generalize decide (x < 0) = nx at *
 generalize decide (y < 0) = ny at *
 generalize dg BB x.natAbs = dx at *
 generalize dg BB y.natAbs = dy at *
 go_region_held3 (fun w'=>w'.cell? ⟨w.heap.size,0,none⟩ = some (.bool nx) ∧ w'.cell? ⟨w.heap.size,1,none⟩ = some (.slice a dx.length ca) ∧ w'.cell? ⟨w.heap.size + 1,0,none⟩ = some (.bool ny) ∧ w'.cell? ⟨w.heap.size + 1,1,none⟩ = some (.slice b dy.length cb) ∧ w'.frozen? ⟨w.heap.size,0,none⟩ = false ∧ w'.frozen? ⟨w.heap.size,1,none⟩ = false ∧ w'.frozen? ⟨w.heap.size + 1,0,none⟩ = false ∧ w'.frozen? ⟨w.heap.size + 1,1,none⟩ = false ∧ Below w.heap.size w w')
  (first | with_reducible exact keepTwo (by assumption) hb1 | with_reducible exact keepA hwA hneA (by assumption) | with_reducible exact keepB hwB hneB (by assumption) | go_keep)
  (first
   | (go_at_call_of 42 (Value.agg #[.bool nx,.slice a dx.length ca]); (with_reducible refine (right_at HX0 hn (by go_split_ands; assumption)).mono ?_); rintro e w1 ⟨rfl,hb1⟩)
   | (go_at_call_of 42 (Value.agg #[.bool ny,.slice b dy.length cb]); (with_reducible refine (right_at HY0 hm (by go_split_ands; assumption)).mono ?_); rintro e w1 ⟨rfl,hb1⟩))
 rename_i hS
 generalize ((((w1.setCell _ _).setCell _ _).setCell _ _).setCell _ _) = W1 at hS ⊢
 clear c0 c1 cf d0 d1 df f20 f21 f30 f31 hl2 hl3 hB0 hb0 hb1 hX hY
 obtain ⟨c0,c1,d0,d1,-,-,-,-,hB⟩:=hS
 have hda1:=hda.below hB (Nat.le_refl _)
 have hdb1:=hdb.below hB (Nat.le_refl _)
 cases nx <;> cases ny
 ·have HV:=hide (H00.out rfl rfl)
  clear H00 H01 H10 H11
  go_wp2_with fail
  refine (compare_any a b ca cb dx dy W1 hda1 hdb1 cxn cyn hsx).mono ?_
  rintro e w2 ⟨rfl,n,rfl⟩
  go_wp2_with fail
  go_ret
  exact ⟨by rw [← HR.out,← HV.out]; rfl,below_drewN hB n⟩
 ·have HV:=hide (H01.out rfl rfl)
  clear H00 H01 H10 H11
  go_wp2_with fail
  go_ret
  exact ⟨by rw [← HR.out,HV.out]; rfl,hB⟩
 ·have HV:=hide (H10.out rfl rfl)
  clear H00 H01 H10 H11
  go_wp2_with fail
  go_ret
  exact ⟨by rw [← HR.out,HV.out]; rfl,hB⟩
 ·have HV:=hide (H11.out rfl rfl)
  clear H00 H01 H10 H11
  go_wp2_with fail
  refine (compare_any b a cb ca dy dx W1 hdb1 hda1 cyn cxn hsy).mono ?_
  rintro e w2 ⟨rfl,n,rfl⟩
  go_wp2_with fail
  go_ret
  exact ⟨by rw [← HR.out,← HV.out]; rfl,below_drewN hB n⟩

theorem info32:(Try.prog.info? 85).map (fun i=>(i.zero,i.size,i.bytes)) = some (some (.int .u32 0),1,4):=by kernel_rfl

def OwnD (w:World) (base:Nat) (v:Value) (ds:List Nat):Prop:=w.ownsRow base 85 1 v ds.length (dcells .u32 ds)

theorem own_slice {w:World} {base:Nat} {e:TypeId} {size:Nat} {v:Value} {n:Nat} {xs:List Value} (h:w.ownsRow base e size v n xs):∃ va vc,v = .slice va n vc:=by
 rcases h.2 with ⟨hv,h0⟩ | ⟨g,c,cur,hv,_⟩
 ·exact ⟨none,0,by rw [hv,h0]⟩
 ·exact ⟨_,_,hv⟩
theorem add_plain (b o i:Nat):(⟨b,o,none⟩:Addr).add i = ⟨b,o + i,none⟩:=by unfold Addr.add; split <;> simp_all

theorem own_dg {k:IntKind} {e:TypeId} {w:World} {base:Nat} {a:Option Addr} {c:Nat} {ds:List Nat} (h:w.ownsRow base e 1 (.slice a ds.length c) ds.length (dcells k ds)):Dg k w a ds ∧ Fit a ds.length c:=by
 refine ⟨?_,?_⟩
 ·intro hn
  rcases h.2 with ⟨_,h0⟩ | ⟨g,c',cur,hv,hb,hg,hle,hmx,hsz,htk⟩
  ·omega
  ·injection hv with hv
   subst hv
   refine ⟨g,0,rfl,fun i hi=>?_⟩
   have:=h.cells (g:=g) rfl i (.int k (ds[i]:Int)) (by simp [dcells,List.getElem?_eq_getElem hi])
   rw [add_plain] at this
   exact this
 ·rcases h.2 with ⟨hv,h0⟩ | ⟨g,c',cur,hv,hb,hg,hle,_⟩
  ·injection hv with ha hn hc
   subst ha hc
   exact ⟨by omega,fun _=>rfl⟩
  ·injection hv with ha _ hc
   subst ha hc
   exact ⟨hle,fun h=>by cases h⟩

theorem OwnD.nil (w:World) (base:Nat):OwnD w base (.slice none 0 0) []:=⟨rfl,.inl ⟨rfl,rfl⟩⟩
theorem OwnD.alloc {w:World} {base:Nat} {v:Value} {ds:List Nat} (h:OwnD w base v ds) (o:Obj):OwnD (w.alloc o) base v ds:=World.ownsRow.alloc h o
theorem OwnD.below {w w':World} {base:Nat} {v:Value} {ds:List Nat} (h:OwnD w base v ds) (hb:Below w.heap.size w w'):OwnD w' base v ds:=
 h.kept (row:=none) ⟨hb.os,hb.tape,hb.output,hb.size,fun i hi _=>hb.block i hi⟩ (by cases v.ownBlock <;> simp)

theorem wpList_make_dig {w:World} {ops:Array Oper} {rest:List Oper} {o:Oper} {a:Act} {Q:Exit → Act → World → Prop} (hgd:o.guard = none) (l c:Operand) (ho:o.op = Op.makeSlice 36 l c)
  (C:Int) (n:Nat) (hl:a.eval l = .int .i64 0) (hc:a.eval c = .int .i64 C) (hC:C = (n:Int)) (hn:n ≤ 2199023255552)
  (hK:∀ w' v,OwnD w' w.heap.size v [] → Below w.heap.size w w' → wpList Try.prog ops Q rest (a.put o.dst v) w'):wpList Try.prog ops Q (o :: rest) a w:=by
 obtain ⟨i0,hi0,hz0,hz1,hz2⟩:=info_parts info32
 refine wpList_make_own w hgd l c 36 ho w.heap.size 85 i0 (.int .u32 0) 1 Try.underlying36 hi0 hz0 hz1 .i64 .i64 C n hl hc hC (by rw [hz2]; omega) (by unfold maxLen; omega) (Nat.le_refl _) (fun w' h1 h2=>hK w' _ h1 (below_of_grown h2 (fun g h=>by cases h) (Nat.le_refl _)))

theorem wpList_append_dig {w:World} {ops:Array Oper} {rest:List Oper} {o:Oper} {a:Act} {Q:Exit → Act → World → Prop} (hgd:o.guard = none) (s x:Operand)
  (ho:o.op = .call { callee:=.builtin .append,args:=#[s,x],argTypes:=#[36,36] })
  (base:Nat) (v:Value) (ds:List Nat) (hs:a.eval s = v) (hown:OwnD w base v ds) (ad:Addr) (d:Nat) (hx:a.eval x = .slice (some ad) 1 1) (hc:w.cell? (ad.add 0) = some (.int .u32 (d:Int)))
  (hlen:ds.length + 1 ≤ 2199023255552) (hbase:base ≤ w.heap.size)
  (h:∀ v' w',OwnD w' base v' (ds ++ [d]) → Below base w w' → wpList Try.prog ops Q rest (a.put o.dst v') w'):wpList Try.prog ops Q (o :: rest) a w:=by
 obtain ⟨i0,hi0,hz0,hz1,hz2⟩:=info_parts info32
 have hnews:∀ j u,(dcells .u32 [d])[j]? = some u → w.cell? (ad.add j) = some u:=by
  intro j u hj
  rcases j with _ | j
  ·simp [dcells] at hj; rw [hc,hj]
  ·simp [dcells] at hj
 refine wpList_append_own w hgd s x 36 ho base 85 i0 (.int .u32 0) 1 4 Try.underlying36 hi0 hz0 hz1 hz2 rfl (by decide) v ds.length (dcells .u32 ds) hs hown ad 1 1 (dcells .u32 [d]) hx rfl hnews (dcells_one _ _) (by unfold maxLen; omega) (by omega) hbase (fun v' w' h2 h3 _=>?_)
 refine h v' w' ?_ (below_of_grown h3 (fun g hg=>(World.ownsRow.lt hown g hg).1) hbase)
 unfold OwnD
 rw [dcells_app,List.length_append]
 exact h2

theorem wpList_append_src {w:World} {ops:Array Oper} {rest:List Oper} {o:Oper} {a:Act} {Q:Exit → Act → World → Prop} (hgd:o.guard = none) (s x:Operand)
  (ho:o.op = .call { callee:=.builtin .append,args:=#[s,x],argTypes:=#[36,36] })
  (base:Nat) (v:Value) (ds:List Nat) (hs:a.eval s = v) (hown:OwnD w base v ds) (A:Option Addr) (c:Nat) (es:List Nat) (hx:a.eval x = .slice A es.length c) (hfit:Fit A es.length c) (hd:Dg .u32 w A es)
  (hlen:ds.length + es.length ≤ 2199023255552) (hbase:base ≤ w.heap.size)
  (h:∀ v' w',OwnD w' base v' (ds ++ es) → Below base w w' → wpList Try.prog ops Q rest (a.put o.dst v') w'):wpList Try.prog ops Q (o :: rest) a w:=by
 obtain ⟨i0,hi0,hz0,hz1,hz2⟩:=info_parts info32
 cases A with
 | none=>
  obtain ⟨h1,h2⟩:=hfit
  have hc:=h2 rfl
  subst hc
  obtain rfl:es = []:=List.eq_nil_of_length_eq_zero (by omega)
  exact wpList_append_own_none hgd s x 36 ho base 85 i0 1 Try.underlying36 hi0 v ds.length (dcells .u32 ds) hs hown hx (h v w (by simpa using hown) (Below.refl _ _))
 | some ad=>
  have hnews:∀ j u,(dcells .u32 es)[j]? = some u → w.cell? (ad.add j) = some u:=by
   intro j u hj
   have hjl:j < es.length:=by
    have:=(List.getElem?_eq_some_iff.1 hj).1
    rwa [dcells_len] at this
   obtain ⟨b,off,e,hc⟩:=hd (by omega)
   obtain rfl:ad = ⟨b,off,none⟩:=Option.some.inj e
   rw [add_plain,hc j hjl]
   unfold dcells at hj
   rw [List.getElem?_map,List.getElem?_eq_getElem hjl] at hj
   exact hj
  refine wpList_append_own w hgd s x 36 ho base 85 i0 (.int .u32 0) 1 4 Try.underlying36 hi0 hz0 hz1 hz2 rfl (by decide) v ds.length (dcells .u32 ds) hs hown ad es.length c (dcells .u32 es) hx (by rw [dcells_len]; omega) hnews (dcells_one _ _) (by unfold maxLen; omega) (by omega) hbase (fun v' w' h2 h3 _=>?_)
  refine h v' w' ?_ (below_of_grown h3 (fun g hg=>(World.ownsRow.lt hown g hg).1) hbase)
  unfold OwnD
  rw [dcells_app,List.length_append]
  exact h2

def DigPost (w:World) (n L:Nat) (e:Ending) (w':World):Prop:=
 ∃ a cap ds,e = .returned (.slice a ds.length cap) ∧ Fit a ds.length cap ∧ Dg .u32 w' a ds ∧ Digs BB ds ∧ val BB ds = n ∧ ds.length ≤ L ∧ Below w.heap.size w w'

theorem val_take_succ {ds:List Nat} {j:Nat} (hj:j < ds.length):val BB (ds.take (j + 1)) = val BB (ds.take j) + BB ^ j * ds[j]:=by
 rw [List.take_succ_eq_append_getElem hj,val_snoc,List.length_take,Nat.min_eq_left (by omega)]
theorem val_take_ge {ds:List Nat} {j:Nat} (hj:ds.length ≤ j):val BB (ds.take (j + 1)) = val BB (ds.take j):=by
 rw [List.take_of_length_le hj,List.take_of_length_le (by omega)]

theorem sum_step {A B V c d e P q r:Nat} (h:A + B = V + P * c) (hq:d + c + e = BB * q + r):(A + P * d) + (B + P * e) = (V + P * r) + (P * BB) * q:=by
 have h1:P * (d + c + e) = P * (BB * q + r):=by rw [hq]
 rw [Nat.mul_add,Nat.mul_add,Nat.mul_add,← Nat.mul_assoc] at h1
 omega

structure PlusSt (w:World) (base:Nat) (x y:List Nat) (j:Nat) (v:Value) (ds:List Nat) (c:Nat) (wr:World):Prop where
 own:OwnD wr base v ds
 len:ds.length = j
 digs:Digs BB ds
 sum:val BB (x.take j) + val BB (y.take j) = val BB ds + BB ^ j * c
 car:c ≤ 1
 bel:Below base w wr
 le:base ≤ wr.heap.size

theorem PlusSt.next {w wr w':World} {base j c:Nat} {x y ds:List Nat} {v v':Value} (s:PlusSt w base x y j v ds c wr) (e q r:Nat) (hj:j < x.length) (he:val BB (y.take (j + 1)) = val BB (y.take j) + BB ^ j * e) (hq:x[j] + c + e = BB * q + r) (hr:r < BB) (hq1:q ≤ 1)
  (ho:OwnD w' base v' (ds ++ [r])) (hb:Below base wr w'):PlusSt w base x y (j + 1) v' (ds ++ [r]) q w':=by
 refine ⟨ho,by simp [s.len],s.digs.snoc hr,?_,hq1,s.bel.trans hb,Nat.le_trans s.le hb.size⟩
 rw [val_take_succ hj,he,val_snoc,s.len,Nat.pow_succ]
 exact sum_step s.sum hq

set_option maxRecDepth 100000 in
set_option maxHeartbeats 1600000 in
theorem plus_any (a b:Option Addr) (ca cb:Nat) (x y:List Nat) (w:World) (hx:Dg .u32 w a x) (hy:Dg .u32 w b y) (dx:Digs BB x) (dy:Digs BB y) (hn:x.length ≤ 1099511627776) (hm:y.length ≤ 1099511627776) :
  Calls Try.prog 44 #[.slice a x.length ca,.slice b y.length cb] w (DigPost w (val BB x + val BB y) (max x.length y.length + 1)):=by
 generalize hP:DigPost w (val BB x + val BB y) (max x.length y.length + 1) = Post
 have HP:=hide hP
 clear hP
 go_enter Try.func44,Try.ntmps44
 go_upto_if 13 with (fail)
 generalize hlb:decide ((x.length:Int) < (y.length:Int)) = lb
 have HLB:=hide hlb
 clear hlb
 go_cut [0,1] from 14 to 15 (fun v0 v1 wc=>w = wc ∧ ∃ p q cp cq X Y,v0 = .slice p (List.length X) cp ∧ v1 = .slice q (List.length Y) cq ∧ Dg .u32 w p X ∧ Dg .u32 w q Y ∧ Digs BB X ∧ Digs BB Y ∧ Y.length ≤ X.length ∧ X.length ≤ 1099511627776 ∧ Hid (val BB X + val BB Y = val BB x + val BB y ∧ max x.length y.length = X.length))
 case first=>
  cases lb with
  | true=>
   have hlt:x.length < y.length:=by have:=HLB.out; simp at this; omega
   go_wp2_with fail
   go_meet
   exact ⟨rfl,b,a,cb,ca,y,x,rfl,rfl,hy,hx,dy,dx,by omega,hm,hide ⟨by omega,by omega⟩⟩
  | false=>
   have hlt:y.length ≤ x.length:=by have:=HLB.out; simp at this; omega
   go_wp2_with fail
   go_meet
   exact ⟨rfl,a,b,ca,cb,x,y,rfl,rfl,hx,hy,dx,dy,hlt,hn,hide ⟨rfl,by omega⟩⟩
 case rest=>
  obtain ⟨rfl,p,q,cp,cq,X,Y,rfl,rfl,hX,hY,dX,dY,hle,hXn,HS⟩:=hcut
  clear hx hy dx dy hn hm
  go_wp2_with (at_make; refine wpList_make_dig rfl _ _ rfl _ (X.length + 1) rfl rfl (by omega) (by omega) ?_)
  intro w1 v1 ho1 hb1
  have s0:PlusSt w w.heap.size X Y 0 v1 [] 0 w1:=⟨ho1,rfl,Digs.nil _,by simp [val],by omega,hb1,hb1.size⟩
  go_wp2_with fail
  go_loopg [5,6,22] X.length (fun r v c i wr=>∃ (j:Nat) (ds:List Nat) (cc:Nat),j + r = X.length ∧ i = .int .i64 (j:Int) ∧ c = .int .u32 (cc:Int) ∧ PlusSt w w.heap.size X Y j v ds cc wr)
  case atStart=>exact ⟨0,[],0,by omega,rfl,rfl,s0⟩
  case round=>
   obtain ⟨j,ds,cc,hjr,rfl,rfl,s⟩:=hrel
   have HJ:=hide hjr
   clear hjr s0 ho1 hb1
   have hcar:=s.car
   have hlen:=s.len
   rcases Nat.lt_or_ge j X.length with hj | hj
   ·obtain ⟨b1,o1,rfl,hc1,hl1⟩:=hX.at hj
    replace hc1:=(s.bel.cell (p:=⟨b1,o1 + j,none⟩) hl1).trans hc1
    have hdB:=dX.at hj
    have hBB:=BB_eq
    rcases Nat.lt_or_ge j Y.length with hk | hk
    ·obtain ⟨b2,o2,rfl,hc2,hl2⟩:=hY.at hk
     replace hc2:=(s.bel.cell (p:=⟨b2,o2 + j,none⟩) hl2).trans hc2
     have heB:=dY.at hk
     have HE:=hide (val_take_succ (ds:=Y) hk)
     have HN:=hide (fun (w':World) (v':Value) (q r:Nat)=>PlusSt.next (w':=w') (v':=v') s Y[j] q r hj HE.out)
     generalize X[j] = d at hc1 hdB HN
     generalize Y[j] = e at hc2 heB HN HE
     have hd9:d < 1000000000:=by omega
     have he9:e < 1000000000:=by omega
     clear hBB hdB heB HE
     obtain ⟨r,hr⟩:∃ r:Nat,r = (d + cc + e) % 1000000000:=⟨_,rfl⟩
     obtain ⟨q,hq⟩:∃ q:Nat,q = (d + cc + e) / 1000000000:=⟨_,rfl⟩
     have hr1:((d:Int) + (cc:Int) + (e:Int)) % 1000000000 = (r:Int):=by omega
     have hq1:((d:Int) + (cc:Int) + (e:Int)) / 1000000000 = (q:Int):=by omega
     have HF:Hid (d + cc + e = BB * q + r ∧ r < BB ∧ q ≤ 1):=hide (by rw [BB_eq]; omega)
     clear hr hq
     have ho1:=s.own.alloc (.cells #[.int .u32 (r:Int)] 85)
     have hle1:=s.le
     go_wp2_with (at_builtin; refine wpList_append_dig rfl (.tmp 42) (.tmp 45) rfl w.heap.size _ ds rfl ho1 ⟨_,0,none⟩ r rfl ?c1 ?c2 ?c3 ?_)
     case c1=>rw [add_plain]; exact (Blk.new _ _ _).cell 0
     case c2=>omega
     case c3=>simp; omega
     intro v' w2 ho2 hb2
     have hb3:Below w.heap.size wr w2:=((Below.refl _ _).alloc hle1 _).trans hb2
     have s2:=HN.out w2 v' q r HF.out.1 HF.out.2.1 HF.out.2.2 ho2 hb3
     clear s ho1 ho2 hb2 hb3 HN HF hr1
     go_wp2_with fail
     have hjr:=HJ.out
     go_roundg (gk - 1)
     case measure=>omega
     case rel=>exact ⟨j + 1,_,q,by omega,by go_num,rfl,s2⟩
    ·have HE:Hid (val BB (Y.take (j + 1)) = val BB (Y.take j) + BB ^ j * 0):=hide (by rw [val_take_ge hk]; simp)
     have HN:=hide (fun (w':World) (v':Value) (q r:Nat)=>PlusSt.next (w':=w') (v':=v') s 0 q r hj HE.out)
     generalize X[j] = d at hc1 hdB HN
     have hd9:d < 1000000000:=by omega
     clear hBB hdB HE
     obtain ⟨r,hr⟩:∃ r:Nat,r = (d + cc) % 1000000000:=⟨_,rfl⟩
     obtain ⟨q,hq⟩:∃ q:Nat,q = (d + cc) / 1000000000:=⟨_,rfl⟩
     have hr1:((d:Int) + (cc:Int)) % 1000000000 = (r:Int):=by omega
     have hq1:((d:Int) + (cc:Int)) / 1000000000 = (q:Int):=by omega
     have HF:Hid (d + cc + 0 = BB * q + r ∧ r < BB ∧ q ≤ 1):=hide (by rw [BB_eq]; omega)
     clear hr hq
     have ho1:=s.own.alloc (.cells #[.int .u32 (r:Int)] 85)
     have hle1:=s.le
     go_wp2_with (at_builtin; refine wpList_append_dig rfl (.tmp 42) (.tmp 45) rfl w.heap.size _ ds rfl ho1 ⟨_,0,none⟩ r rfl ?c1 ?c2 ?c3 ?_)
     case c1=>rw [add_plain]; exact (Blk.new _ _ _).cell 0
     case c2=>omega
     case c3=>simp; omega
     intro v' w2 ho2 hb2
     have hb3:Below w.heap.size wr w2:=((Below.refl _ _).alloc hle1 _).trans hb2
     have s2:=HN.out w2 v' q r HF.out.1 HF.out.2.1 HF.out.2.2 ho2 hb3
     clear s ho1 ho2 hb2 hb3 HN HF hr1
     go_wp2_with fail
     have hjr:=HJ.out
     go_roundg (gk - 1)
     case measure=>omega
     case rel=>exact ⟨j + 1,_,q,by omega,by go_num,rfl,s2⟩
   ·have ho1:=s.own.alloc (.cells #[.int .u32 (cc:Int)] 85)
    have hle1:=s.le
    go_wp2_with (at_builtin; refine wpList_append_dig rfl (.tmp 48) (.tmp 50) rfl w.heap.size _ ds rfl ho1 ⟨_,0,none⟩ cc rfl ?c1 ?c2 ?c3 ?_)
    case c1=>rw [add_plain]; exact (Blk.new _ _ _).cell 0
    case c2=>have:=HJ.out; omega
    case c3=>simp; omega
    intro v' w2 ho2 hb2
    have hb3:Below w.heap.size w w2:=s.bel.trans (((Below.refl _ _).alloc hle1 _).trans hb2)
    obtain ⟨ra,rc,rfl⟩:=own_slice ho2
    obtain ⟨hD2,hc2⟩:=own_dg ho2
    go_wp2_with fail
    rw [← HP.out]
    obtain ⟨e1,e2⟩:=HS.out
    have hjr:=HJ.out
    refine ⟨ra,rc,ds ++ [cc],rfl,hc2,hD2,s.digs.snoc (by rw [BB_eq]; omega),?_,?_,hb3⟩
    ·rw [val_snoc,s.len,← s.sum,List.take_of_length_le hj,List.take_of_length_le (by omega)]
     exact e1
    ·rw [List.length_append,s.len,e2]; simp; omega

theorem diff_step {A B V c d e P q r:Nat} (h:A + P * c = V + B) (hq:d + BB * q = r + c + e):(A + P * d) + (P * BB) * q = (V + P * r) + (B + P * e):=by
 have h1:P * (d + BB * q) = P * (r + c + e):=by rw [hq]
 rw [Nat.mul_add,Nat.mul_add,Nat.mul_add,← Nat.mul_assoc] at h1
 omega

structure MinusSt (w:World) (base:Nat) (x y:List Nat) (j:Nat) (v:Value) (ds:List Nat) (c:Nat) (wr:World):Prop where
 own:OwnD wr base v ds
 len:ds.length = j
 digs:Digs BB ds
 sum:val BB (x.take j) + BB ^ j * c = val BB ds + val BB (y.take j)
 car:c ≤ 1
 bel:Below base w wr
 le:base ≤ wr.heap.size

theorem MinusSt.next {w wr w':World} {base j c:Nat} {x y ds:List Nat} {v v':Value} (s:MinusSt w base x y j v ds c wr) (e q r:Nat) (hj:j < x.length) (he:val BB (y.take (j + 1)) = val BB (y.take j) + BB ^ j * e) (hq:x[j] + BB * q = r + c + e) (hr:r < BB) (hq1:q ≤ 1)
  (ho:OwnD w' base v' (ds ++ [r])) (hb:Below base wr w'):MinusSt w base x y (j + 1) v' (ds ++ [r]) q w':=by
 refine ⟨ho,by simp [s.len],s.digs.snoc hr,?_,hq1,s.bel.trans hb,Nat.le_trans s.le hb.size⟩
 rw [val_take_succ hj,he,val_snoc,s.len,Nat.pow_succ]
 exact diff_step s.sum hq

set_option maxRecDepth 100000 in
set_option maxHeartbeats 1600000 in
theorem minus_any (p q:Option Addr) (cp cq:Nat) (X Y:List Nat) (w:World) (hX:Dg .u32 w p X) (hY:Dg .u32 w q Y) (dX:Digs BB X) (dY:Digs BB Y) (hXn:X.length ≤ 1099511627776) (hle:Y.length ≤ X.length) (hv:val BB Y ≤ val BB X) :
  Calls Try.prog 46 #[.slice p X.length cp,.slice q Y.length cq] w (DigPost w (val BB X - val BB Y) X.length):=by
 generalize hP:DigPost w (val BB X - val BB Y) X.length = Post
 have HP:=hide hP
 have HV:=hide hv
 clear hP hv
 go_enter Try.func46,Try.ntmps46
 go_wp2_with (at_make; refine wpList_make_dig rfl _ _ rfl _ X.length rfl rfl rfl (by omega) ?_)
 intro w1 v1 ho1 hb1
 have s0:MinusSt w w.heap.size X Y 0 v1 [] 0 w1:=⟨ho1,rfl,Digs.nil _,by simp [val],by omega,hb1,hb1.size⟩
 go_wp2_with fail
 go_loopg [5,6,15] X.length (fun r v c i wr=>∃ (j:Nat) (ds:List Nat) (cc:Nat),j + r = X.length ∧ i = .int .i64 (j:Int) ∧ c = .int .i64 (cc:Int) ∧ MinusSt w w.heap.size X Y j v ds cc wr)
 case atStart=>exact ⟨0,[],0,by omega,rfl,rfl,s0⟩
 case round=>
  obtain ⟨j,ds,cc,hjr,rfl,rfl,s⟩:=hrel
  have HJ:=hide hjr
  clear hjr s0 ho1 hb1
  have hcar:=s.car
  have hlen:=s.len
  rcases Nat.lt_or_ge j X.length with hj | hj
  ·obtain ⟨b1,o1,rfl,hc1,hl1⟩:=hX.at hj
   replace hc1:=(s.bel.cell (p:=⟨b1,o1 + j,none⟩) hl1).trans hc1
   have hdB:=dX.at hj
   have hBB:=BB_eq
   rcases Nat.lt_or_ge j Y.length with hk | hk
   ·obtain ⟨b2,o2,rfl,hc2,hl2⟩:=hY.at hk
    replace hc2:=(s.bel.cell (p:=⟨b2,o2 + j,none⟩) hl2).trans hc2
    have heB:=dY.at hk
    have HE:=hide (val_take_succ (ds:=Y) hk)
    have HN:=hide (fun (w':World) (v':Value) (q r:Nat)=>MinusSt.next (w':=w') (v':=v') s Y[j] q r hj HE.out)
    generalize X[j] = d at hc1 hdB HN
    generalize Y[j] = e at hc2 heB HN HE
    have hd9:d < 1000000000:=by omega
    have he9:e < 1000000000:=by omega
    clear hBB hdB heB HE
    by_cases hneg:(d:Int) - (cc:Int) - (e:Int) < 0
    ·obtain ⟨r,hr⟩:∃ r:Nat,(d:Int) - (cc:Int) - (e:Int) + 1000000000 = (r:Int):=⟨((d:Int) - (cc:Int) - (e:Int) + 1000000000).toNat,by omega⟩
     have HF:Hid (d + BB * 1 = r + cc + e ∧ r < BB ∧ 1 ≤ 1):=hide (by rw [BB_eq]; omega)
     have hr9:r < 1000000000:=by omega
     have ho1:=s.own.alloc (.cells #[.int .u32 (r:Int)] 85)
     have hle1:=s.le
     go_wp2_with (at_builtin; refine wpList_append_dig rfl (.tmp 39) (.tmp 42) rfl w.heap.size _ ds rfl ho1 ⟨_,0,none⟩ r rfl ?c1 ?c2 ?c3 ?_)
     case c1=>rw [add_plain]; exact (Blk.new _ _ _).cell 0
     case c2=>omega
     case c3=>simp; omega
     intro v' w2 ho2 hb2
     have hb3:Below w.heap.size wr w2:=((Below.refl _ _).alloc hle1 _).trans hb2
     have s2:=HN.out w2 v' 1 r HF.out.1 HF.out.2.1 HF.out.2.2 ho2 hb3
     clear s ho1 ho2 hb2 hb3 HN HF
     go_wp2_with fail
     have hjr:=HJ.out
     go_roundg (gk - 1)
     case measure=>omega
     case rel=>exact ⟨j + 1,_,1,by omega,by go_num,rfl,s2⟩
    ·obtain ⟨r,hr⟩:∃ r:Nat,(d:Int) - (cc:Int) - (e:Int) = (r:Int):=⟨((d:Int) - (cc:Int) - (e:Int)).toNat,by omega⟩
     clear hneg
     have HF:Hid (d + BB * 0 = r + cc + e ∧ r < BB ∧ 0 ≤ 1):=hide (by rw [BB_eq]; omega)
     have hr9:r < 1000000000:=by omega
     have ho1:=s.own.alloc (.cells #[.int .u32 (r:Int)] 85)
     have hle1:=s.le
     go_wp2_with (at_builtin; refine wpList_append_dig rfl (.tmp 39) (.tmp 42) rfl w.heap.size _ ds rfl ho1 ⟨_,0,none⟩ r rfl ?c1 ?c2 ?c3 ?_)
     case c1=>rw [add_plain]; exact (Blk.new _ _ _).cell 0
     case c2=>omega
     case c3=>simp; omega
     intro v' w2 ho2 hb2
     have hb3:Below w.heap.size wr w2:=((Below.refl _ _).alloc hle1 _).trans hb2
     have s2:=HN.out w2 v' 0 r HF.out.1 HF.out.2.1 HF.out.2.2 ho2 hb3
     clear s ho1 ho2 hb2 hb3 HN HF
     go_wp2_with fail
     have hjr:=HJ.out
     go_roundg (gk - 1)
     case measure=>omega
     case rel=>exact ⟨j + 1,_,0,by omega,by go_num,rfl,s2⟩
   ·have HE:Hid (val BB (Y.take (j + 1)) = val BB (Y.take j) + BB ^ j * 0):=hide (by rw [val_take_ge hk]; simp)
    have HN:=hide (fun (w':World) (v':Value) (q r:Nat)=>MinusSt.next (w':=w') (v':=v') s 0 q r hj HE.out)
    generalize X[j] = d at hc1 hdB HN
    have hd9:d < 1000000000:=by omega
    clear hBB hdB HE
    by_cases hneg:(d:Int) - (cc:Int) < 0
    ·obtain ⟨r,hr⟩:∃ r:Nat,(d:Int) - (cc:Int) + 1000000000 = (r:Int):=⟨((d:Int) - (cc:Int) + 1000000000).toNat,by omega⟩
     have HF:Hid (d + BB * 1 = r + cc + 0 ∧ r < BB ∧ 1 ≤ 1):=hide (by rw [BB_eq]; omega)
     have hr9:r < 1000000000:=by omega
     have ho1:=s.own.alloc (.cells #[.int .u32 (r:Int)] 85)
     have hle1:=s.le
     go_wp2_with (at_builtin; refine wpList_append_dig rfl (.tmp 39) (.tmp 42) rfl w.heap.size _ ds rfl ho1 ⟨_,0,none⟩ r rfl ?c1 ?c2 ?c3 ?_)
     case c1=>rw [add_plain]; exact (Blk.new _ _ _).cell 0
     case c2=>omega
     case c3=>simp; omega
     intro v' w2 ho2 hb2
     have hb3:Below w.heap.size wr w2:=((Below.refl _ _).alloc hle1 _).trans hb2
     have s2:=HN.out w2 v' 1 r HF.out.1 HF.out.2.1 HF.out.2.2 ho2 hb3
     clear s ho1 ho2 hb2 hb3 HN HF
     go_wp2_with fail
     have hjr:=HJ.out
     go_roundg (gk - 1)
     case measure=>omega
     case rel=>exact ⟨j + 1,_,1,by omega,by go_num,rfl,s2⟩
    ·obtain ⟨r,hr⟩:∃ r:Nat,(d:Int) - (cc:Int) = (r:Int):=⟨((d:Int) - (cc:Int)).toNat,by omega⟩
     clear hneg
     have HF:Hid (d + BB * 0 = r + cc + 0 ∧ r < BB ∧ 0 ≤ 1):=hide (by rw [BB_eq]; omega)
     have hr9:r < 1000000000:=by omega
     have ho1:=s.own.alloc (.cells #[.int .u32 (r:Int)] 85)
     have hle1:=s.le
     go_wp2_with (at_builtin; refine wpList_append_dig rfl (.tmp 39) (.tmp 42) rfl w.heap.size _ ds rfl ho1 ⟨_,0,none⟩ r rfl ?c1 ?c2 ?c3 ?_)
     case c1=>rw [add_plain]; exact (Blk.new _ _ _).cell 0
     case c2=>omega
     case c3=>simp; omega
     intro v' w2 ho2 hb2
     have hb3:Below w.heap.size wr w2:=((Below.refl _ _).alloc hle1 _).trans hb2
     have s2:=HN.out w2 v' 0 r HF.out.1 HF.out.2.1 HF.out.2.2 ho2 hb3
     clear s ho1 ho2 hb2 hb3 HN HF
     go_wp2_with fail
     have hjr:=HJ.out
     go_roundg (gk - 1)
     case measure=>omega
     case rel=>exact ⟨j + 1,_,0,by omega,by go_num,rfl,s2⟩
  ·obtain ⟨ra,rc,rfl⟩:=own_slice s.own
   obtain ⟨hD2,hc2⟩:=own_dg s.own
   go_wp2_with fail
   rw [← HP.out]
   have hjr:=HJ.out
   have hvv:=HV.out
   have hs:=s.sum
   rw [List.take_of_length_le hj,List.take_of_length_le (by omega)] at hs
   have hlt:=val_lt s.digs
   rw [s.len] at hlt
   have hc0:cc = 0:=by
    rcases Nat.eq_zero_or_pos cc with h | h
    ·exact h
    ·obtain rfl:cc = 1:=by omega
     omega
   subst hc0
   refine ⟨ra,rc,ds,rfl,hc2,hD2,s.digs,by omega,by rw [s.len]; omega,s.bel⟩

theorem copied_any (p:Option Addr) (cp:Nat) (X:List Nat) (w:World) (hX:Dg .u32 w p X) (hf:Fit p X.length cp) (dX:Digs BB X) (hXn:X.length ≤ 1099511627776) :
  Calls Try.prog 47 #[.slice p X.length cp] w (DigPost w (val BB X) X.length):=by
 generalize hP:DigPost w (val BB X) X.length = Post
 have HP:=hide hP
 clear hP
 go_enter Try.func47,Try.ntmps47
 go_wp2_with (at_builtin; refine wpList_append_src rfl _ _ rfl w.heap.size _ [] rfl (OwnD.nil _ _) p cp X rfl hf hX (by simp; omega) (Nat.le_refl _) ?_)
 intro v' w' ho hb
 obtain ⟨ra,rc,rfl⟩:=own_slice ho
 obtain ⟨hD2,hc2⟩:=own_dg ho
 go_wp2_with fail
 rw [← HP.out]
 exact ⟨ra,rc,X,rfl,hc2,hD2,dX,rfl,Nat.le_refl _,hb⟩

theorem Fit.le {a:Option Addr} {n cap:Nat} (h:Fit a n cap):n ≤ cap:=h.1
def Rs (w:World) (gs:List Nat) (c:World):Prop:=Below w.heap.size w c ∧ ∀ g ∈ gs,∃ (n:Bool) (a:Option Addr) (l k:Nat),Blk c g 38 #[.bool n,.slice a l k]
section
variable {w c c':World} {gs:List Nat}
theorem Rs.bel (h:Rs w gs c):Below w.heap.size w c:=h.1
theorem Rs.below (h:Rs w gs c) (hb:Below c.heap.size c c'):Rs w gs c':=
 ⟨h.1.trans (hb.mono h.1.size),fun g hg=>by obtain ⟨n,a,l,m,k⟩:=h.2 g hg; exact ⟨n,a,l,m,k.below hb k.lt⟩⟩
theorem Rs.drew (h:Rs w gs c):Rs w gs c.drew:=⟨h.1.drew,h.2⟩
theorem Rs.far (h:Rs w gs c) {g:Nat} (hw:w.heap.size ≤ g) (hn:g ∉ gs) (i:Nat) (u:Value):Rs w gs (c.setCell ⟨g,i,none⟩ u):=
 ⟨h.1.setCell hw _,fun g' hg=>by obtain ⟨n,a,l,m,k⟩:=h.2 g' hg; exact ⟨n,a,l,m,k.far (by rintro rfl; exact hn hg) _⟩⟩
theorem Rs.put (h:Rs w gs c) {g:Nat} (hw:w.heap.size ≤ g) (n:Bool) (a:Option Addr) (l m:Nat):Rs w gs ((c.setCell ⟨g,0,none⟩ (.bool n)).setCell ⟨g,1,none⟩ (.slice a l m)):=by
 refine ⟨(h.1.setCell hw _).setCell hw _,fun g' hg=>?_⟩
 obtain ⟨n',a',l',m',k⟩:=h.2 g' hg
 by_cases e:g' = g
 ·subst e; exact ⟨n,a,l,m,k.two _ _⟩
 ·exact ⟨n',a',l',m',(k.far (by simpa using e) _).far (by simpa using e) _⟩
theorem Rs.at (h:Rs w gs c) {g:Nat} (hg:g ∈ gs) (hb:Below c.heap.size c c'):∃ (n:Bool) (a:Option Addr) (l k:Nat),c'.cell? ⟨g,0,none⟩ = some (.bool n) ∧ c'.cell? ⟨g,1,none⟩ = some (.slice a l k) ∧ c'.frozen? ⟨g,0,none⟩ = false ∧ c'.frozen? ⟨g,1,none⟩ = false ∧ Blk c' g 38 #[.bool n,.slice a l k]:=by
 obtain ⟨n,a,l,m,k⟩:=h.2 g hg
 have k':=k.below hb k.lt
 obtain ⟨h0,h1,hf⟩:=k'.c2
 exact ⟨n,a,l,m,h0,h1,hf 0,hf 1,k'⟩
end

theorem Dg.store {k:IntKind} {w:World} {a:Option Addr} {ds:List Nat} {g l m:Nat} {n:Bool} {b:Option Addr} (h:Dg k w a ds) (hB:Blk w g 38 #[.bool n,.slice b l m]) (x y:Value):Dg k ((w.setCell ⟨g,0,none⟩ x).setCell ⟨g,1,none⟩ y) a ds:=by
 intro hn
 obtain ⟨p,off,e,hc⟩:=h hn
 refine ⟨p,off,e,fun i hi=>?_⟩
 have h0:(⟨g,0,none⟩:Addr) ≠ ⟨p,off + i,none⟩:=fun e=>by
  have:=hc i hi
  rw [← e,hB.cell 0] at this
  cases this
 have h1:(⟨g,1,none⟩:Addr) ≠ ⟨p,off + i,none⟩:=fun e=>by
  have:=hc i hi
  rw [← e,hB.cell 1] at this
  cases this
 rw [World.cell?_setCell_other _ _ _ _ h1,World.cell?_setCell_other _ _ _ _ h0]
 exact hc i hi
theorem IntV.store {w:World} {v:Value} {z:Int} {g l m:Nat} {n:Bool} {b:Option Addr} (h:IntV w v z) (hB:Blk w g 38 #[.bool n,.slice b l m]) (x y:Value):IntV ((w.setCell ⟨g,0,none⟩ x).setCell ⟨g,1,none⟩ y) v z:=by
 obtain ⟨a,cap,e,hc,hd⟩:=h
 exact ⟨a,cap,e,hc,hd.store hB x y⟩
theorem IntV.parts {w:World} {v:Value} {z:Int} (h:IntV w v z):∃ (n:Bool) (a:Option Addr) (l k:Nat),v = .agg #[.bool n,.slice a l k]:=by
 obtain ⟨a,cap,e,_,_⟩:=h
 exact ⟨_,_,_,_,e⟩

theorem plus_at {w c:World} {a b:Option Addr} {ca cb:Nat} {x y:List Nat} (hx:Dg .u32 w a x) (hy:Dg .u32 w b y) (dx:Digs BB x) (dy:Digs BB y) (hn:x.length ≤ 1099511627776) (hm:y.length ≤ 1099511627776) (hB:Below w.heap.size w c) :
  Calls Try.prog 44 #[.slice a x.length ca,.slice b y.length cb] c (DigPost c (val BB x + val BB y) (max x.length y.length + 1)):=plus_any a b ca cb x y c (hx.below hB (Nat.le_refl _)) (hy.below hB (Nat.le_refl _)) dx dy hn hm
theorem minus_at {w c:World} {a b:Option Addr} {ca cb:Nat} {x y:List Nat} (hx:Dg .u32 w a x) (hy:Dg .u32 w b y) (dx:Digs BB x) (dy:Digs BB y) (hn:x.length ≤ 1099511627776) (hle:y.length ≤ x.length) (hv:val BB y ≤ val BB x) (hB:Below w.heap.size w c) :
  Calls Try.prog 46 #[.slice a x.length ca,.slice b y.length cb] c (DigPost c (val BB x - val BB y) x.length):=minus_any a b ca cb x y c (hx.below hB (Nat.le_refl _)) (hy.below hB (Nat.le_refl _)) dx dy hn hle hv
theorem copied_at {w c:World} {a:Option Addr} {ca:Nat} {x:List Nat} (hx:Dg .u32 w a x) (hf:Fit a x.length ca) (dx:Digs BB x) (hn:x.length ≤ 1099511627776) (hB:Below w.heap.size w c) :
  Calls Try.prog 47 #[.slice a x.length ca] c (DigPost c (val BB x) x.length):=copied_any a ca x c (hx.below hB (Nat.le_refl _)) hf dx hn

section
variable {w c w1:World} {gs:List Nat} {g2 g3:Nat} {p q p' q':Value}
theorem keep2 (h:c.cell? ⟨g2,0,none⟩ = some p ∧ c.cell? ⟨g2,1,none⟩ = some q ∧ c.cell? ⟨g3,0,none⟩ = some p' ∧ c.cell? ⟨g3,1,none⟩ = some q' ∧ c.frozen? ⟨g2,0,none⟩ = false ∧ c.frozen? ⟨g2,1,none⟩ = false ∧ c.frozen? ⟨g3,0,none⟩ = false ∧ c.frozen? ⟨g3,1,none⟩ = false ∧ Rs w gs c) (hb:Below c.heap.size c w1) :
  w1.cell? ⟨g2,0,none⟩ = some p ∧ w1.cell? ⟨g2,1,none⟩ = some q ∧ w1.cell? ⟨g3,0,none⟩ = some p' ∧ w1.cell? ⟨g3,1,none⟩ = some q' ∧ w1.frozen? ⟨g2,0,none⟩ = false ∧ w1.frozen? ⟨g2,1,none⟩ = false ∧ w1.frozen? ⟨g3,0,none⟩ = false ∧ w1.frozen? ⟨g3,1,none⟩ = false ∧ Rs w gs w1:=by
 obtain ⟨h1,h2,h3,h4,f1,f2,f3,f4,hB⟩:=h
 have l2:=World.block_lt_of_cell? c _ h1
 have l3:=World.block_lt_of_cell? c _ h3
 exact ⟨(hb.cell l2).trans h1,(hb.cell (p:=⟨g2,1,none⟩) l2).trans h2,(hb.cell l3).trans h3,(hb.cell (p:=⟨g3,1,none⟩) l3).trans h4,(hb.frozen l2).trans f1,(hb.frozen (p:=⟨g2,1,none⟩) l2).trans f2,(hb.frozen l3).trans f3,(hb.frozen (p:=⟨g3,1,none⟩) l3).trans f4,hB.below hb⟩
theorem keepA2 (hw:w.heap.size ≤ g2) (hne:g2 ≠ g3) (hgs:g2 ∉ gs) (h:c.cell? ⟨g2,0,none⟩ = some p ∧ c.cell? ⟨g2,1,none⟩ = some q ∧ c.cell? ⟨g3,0,none⟩ = some p' ∧ c.cell? ⟨g3,1,none⟩ = some q' ∧ c.frozen? ⟨g2,0,none⟩ = false ∧ c.frozen? ⟨g2,1,none⟩ = false ∧ c.frozen? ⟨g3,0,none⟩ = false ∧ c.frozen? ⟨g3,1,none⟩ = false ∧ Rs w gs c) :
  ((c.setCell ⟨g2,0,none⟩ p).setCell ⟨g2,1,none⟩ q).cell? ⟨g2,0,none⟩ = some p ∧ ((c.setCell ⟨g2,0,none⟩ p).setCell ⟨g2,1,none⟩ q).cell? ⟨g2,1,none⟩ = some q ∧ ((c.setCell ⟨g2,0,none⟩ p).setCell ⟨g2,1,none⟩ q).cell? ⟨g3,0,none⟩ = some p' ∧ ((c.setCell ⟨g2,0,none⟩ p).setCell ⟨g2,1,none⟩ q).cell? ⟨g3,1,none⟩ = some q' ∧ ((c.setCell ⟨g2,0,none⟩ p).setCell ⟨g2,1,none⟩ q).frozen? ⟨g2,0,none⟩ = false ∧ ((c.setCell ⟨g2,0,none⟩ p).setCell ⟨g2,1,none⟩ q).frozen? ⟨g2,1,none⟩ = false ∧ ((c.setCell ⟨g2,0,none⟩ p).setCell ⟨g2,1,none⟩ q).frozen? ⟨g3,0,none⟩ = false ∧ ((c.setCell ⟨g2,0,none⟩ p).setCell ⟨g2,1,none⟩ q).frozen? ⟨g3,1,none⟩ = false ∧ Rs w gs ((c.setCell ⟨g2,0,none⟩ p).setCell ⟨g2,1,none⟩ q):=by
 obtain ⟨h1,h2,h3,h4,f1,f2,f3,f4,hB⟩:=h
 refine ⟨?_,?_,?_,?_,by simpa using f1,by simpa using f2,by simpa using f3,by simpa using f4,(hB.far hw hgs _ _).far hw hgs _ _⟩
 ·rw [World.cell?_setCell_other _ _ _ _ (by simp)]; exact World.cell?_setCell_same _ _ _ h1
 ·exact World.cell?_setCell_same _ _ _ ((World.cell?_setCell_other _ _ _ _ (by simp)).trans h2)
 ·rw [World.cell?_setCell_other _ _ _ _ (fun e=>hne (congrArg Addr.block e)),World.cell?_setCell_other _ _ _ _ (fun e=>hne (congrArg Addr.block e))]; exact h3
 ·rw [World.cell?_setCell_other _ _ _ _ (fun e=>hne (congrArg Addr.block e)),World.cell?_setCell_other _ _ _ _ (fun e=>hne (congrArg Addr.block e))]; exact h4
theorem keepB2 (hw:w.heap.size ≤ g3) (hne:g3 ≠ g2) (hgs:g3 ∉ gs) (h:c.cell? ⟨g2,0,none⟩ = some p ∧ c.cell? ⟨g2,1,none⟩ = some q ∧ c.cell? ⟨g3,0,none⟩ = some p' ∧ c.cell? ⟨g3,1,none⟩ = some q' ∧ c.frozen? ⟨g2,0,none⟩ = false ∧ c.frozen? ⟨g2,1,none⟩ = false ∧ c.frozen? ⟨g3,0,none⟩ = false ∧ c.frozen? ⟨g3,1,none⟩ = false ∧ Rs w gs c) :
  ((c.setCell ⟨g3,0,none⟩ p').setCell ⟨g3,1,none⟩ q').cell? ⟨g2,0,none⟩ = some p ∧ ((c.setCell ⟨g3,0,none⟩ p').setCell ⟨g3,1,none⟩ q').cell? ⟨g2,1,none⟩ = some q ∧ ((c.setCell ⟨g3,0,none⟩ p').setCell ⟨g3,1,none⟩ q').cell? ⟨g3,0,none⟩ = some p' ∧ ((c.setCell ⟨g3,0,none⟩ p').setCell ⟨g3,1,none⟩ q').cell? ⟨g3,1,none⟩ = some q' ∧ ((c.setCell ⟨g3,0,none⟩ p').setCell ⟨g3,1,none⟩ q').frozen? ⟨g2,0,none⟩ = false ∧ ((c.setCell ⟨g3,0,none⟩ p').setCell ⟨g3,1,none⟩ q').frozen? ⟨g2,1,none⟩ = false ∧ ((c.setCell ⟨g3,0,none⟩ p').setCell ⟨g3,1,none⟩ q').frozen? ⟨g3,0,none⟩ = false ∧ ((c.setCell ⟨g3,0,none⟩ p').setCell ⟨g3,1,none⟩ q').frozen? ⟨g3,1,none⟩ = false ∧ Rs w gs ((c.setCell ⟨g3,0,none⟩ p').setCell ⟨g3,1,none⟩ q'):=by
 obtain ⟨h1,h2,h3,h4,f1,f2,f3,f4,hB⟩:=h
 obtain ⟨k3,k4,k1,k2,e3,e4,e1,e2,hB'⟩:=keepA2 hw hne hgs ⟨h3,h4,h1,h2,f3,f4,f1,f2,hB⟩
 exact ⟨k1,k2,k3,k4,e1,e2,e3,e4,hB'⟩
theorem keepC2 {g:Nat} (hw:w.heap.size ≤ g) (hg2:g ≠ g2) (hg3:g ≠ g3) (n:Bool) (a:Option Addr) (l m:Nat) (h:c.cell? ⟨g2,0,none⟩ = some p ∧ c.cell? ⟨g2,1,none⟩ = some q ∧ c.cell? ⟨g3,0,none⟩ = some p' ∧ c.cell? ⟨g3,1,none⟩ = some q' ∧ c.frozen? ⟨g2,0,none⟩ = false ∧ c.frozen? ⟨g2,1,none⟩ = false ∧ c.frozen? ⟨g3,0,none⟩ = false ∧ c.frozen? ⟨g3,1,none⟩ = false ∧ Rs w gs c) :
  ((c.setCell ⟨g,0,none⟩ (.bool n)).setCell ⟨g,1,none⟩ (.slice a l m)).cell? ⟨g2,0,none⟩ = some p ∧ ((c.setCell ⟨g,0,none⟩ (.bool n)).setCell ⟨g,1,none⟩ (.slice a l m)).cell? ⟨g2,1,none⟩ = some q ∧ ((c.setCell ⟨g,0,none⟩ (.bool n)).setCell ⟨g,1,none⟩ (.slice a l m)).cell? ⟨g3,0,none⟩ = some p' ∧ ((c.setCell ⟨g,0,none⟩ (.bool n)).setCell ⟨g,1,none⟩ (.slice a l m)).cell? ⟨g3,1,none⟩ = some q' ∧ ((c.setCell ⟨g,0,none⟩ (.bool n)).setCell ⟨g,1,none⟩ (.slice a l m)).frozen? ⟨g2,0,none⟩ = false ∧ ((c.setCell ⟨g,0,none⟩ (.bool n)).setCell ⟨g,1,none⟩ (.slice a l m)).frozen? ⟨g2,1,none⟩ = false ∧ ((c.setCell ⟨g,0,none⟩ (.bool n)).setCell ⟨g,1,none⟩ (.slice a l m)).frozen? ⟨g3,0,none⟩ = false ∧ ((c.setCell ⟨g,0,none⟩ (.bool n)).setCell ⟨g,1,none⟩ (.slice a l m)).frozen? ⟨g3,1,none⟩ = false ∧ Rs w gs ((c.setCell ⟨g,0,none⟩ (.bool n)).setCell ⟨g,1,none⟩ (.slice a l m)):=by
 obtain ⟨h1,h2,h3,h4,f1,f2,f3,f4,hB⟩:=h
 refine ⟨?_,?_,?_,?_,by simpa using f1,by simpa using f2,by simpa using f3,by simpa using f4,hB.put hw _ _ _ _⟩
 ·rw [World.cell?_setCell_other _ _ _ _ (fun e=>hg2 (congrArg Addr.block e)),World.cell?_setCell_other _ _ _ _ (fun e=>hg2 (congrArg Addr.block e))]; exact h1
 ·rw [World.cell?_setCell_other _ _ _ _ (fun e=>hg2 (congrArg Addr.block e)),World.cell?_setCell_other _ _ _ _ (fun e=>hg2 (congrArg Addr.block e))]; exact h2
 ·rw [World.cell?_setCell_other _ _ _ _ (fun e=>hg3 (congrArg Addr.block e)),World.cell?_setCell_other _ _ _ _ (fun e=>hg3 (congrArg Addr.block e))]; exact h3
 ·rw [World.cell?_setCell_other _ _ _ _ (fun e=>hg3 (congrArg Addr.block e)),World.cell?_setCell_other _ _ _ _ (fun e=>hg3 (congrArg Addr.block e))]; exact h4
theorem keepSet (hw:w.heap.size ≤ g2) (hne:g2 ≠ g3) (hgs:g2 ∉ gs) (x y:Value) (h:c.cell? ⟨g2,0,none⟩ = some p ∧ c.cell? ⟨g2,1,none⟩ = some q ∧ c.cell? ⟨g3,0,none⟩ = some p' ∧ c.cell? ⟨g3,1,none⟩ = some q' ∧ c.frozen? ⟨g2,0,none⟩ = false ∧ c.frozen? ⟨g2,1,none⟩ = false ∧ c.frozen? ⟨g3,0,none⟩ = false ∧ c.frozen? ⟨g3,1,none⟩ = false ∧ Rs w gs c) :
  ((c.setCell ⟨g2,0,none⟩ x).setCell ⟨g2,1,none⟩ y).cell? ⟨g2,0,none⟩ = some x ∧ ((c.setCell ⟨g2,0,none⟩ x).setCell ⟨g2,1,none⟩ y).cell? ⟨g2,1,none⟩ = some y ∧ ((c.setCell ⟨g2,0,none⟩ x).setCell ⟨g2,1,none⟩ y).cell? ⟨g3,0,none⟩ = some p' ∧ ((c.setCell ⟨g2,0,none⟩ x).setCell ⟨g2,1,none⟩ y).cell? ⟨g3,1,none⟩ = some q' ∧ ((c.setCell ⟨g2,0,none⟩ x).setCell ⟨g2,1,none⟩ y).frozen? ⟨g2,0,none⟩ = false ∧ ((c.setCell ⟨g2,0,none⟩ x).setCell ⟨g2,1,none⟩ y).frozen? ⟨g2,1,none⟩ = false ∧ ((c.setCell ⟨g2,0,none⟩ x).setCell ⟨g2,1,none⟩ y).frozen? ⟨g3,0,none⟩ = false ∧ ((c.setCell ⟨g2,0,none⟩ x).setCell ⟨g2,1,none⟩ y).frozen? ⟨g3,1,none⟩ = false ∧ Rs w gs ((c.setCell ⟨g2,0,none⟩ x).setCell ⟨g2,1,none⟩ y):=by
 obtain ⟨h1,h2,h3,h4,f1,f2,f3,f4,hB⟩:=h
 refine ⟨?_,?_,?_,?_,by simpa using f1,by simpa using f2,by simpa using f3,by simpa using f4,(hB.far hw hgs _ _).far hw hgs _ _⟩
 ·rw [World.cell?_setCell_other _ _ _ _ (by simp)]; exact World.cell?_setCell_same _ _ _ h1
 ·exact World.cell?_setCell_same _ _ _ ((World.cell?_setCell_other _ _ _ _ (by simp)).trans h2)
 ·rw [World.cell?_setCell_other _ _ _ _ (fun e=>hne (congrArg Addr.block e)),World.cell?_setCell_other _ _ _ _ (fun e=>hne (congrArg Addr.block e))]; exact h3
 ·rw [World.cell?_setCell_other _ _ _ _ (fun e=>hne (congrArg Addr.block e)),World.cell?_setCell_other _ _ _ _ (fun e=>hne (congrArg Addr.block e))]; exact h4
theorem keepSwap (hw:w.heap.size ≤ g2) (hw':w.heap.size ≤ g3) (hne:g2 ≠ g3) (hgs:g2 ∉ gs) (hgs':g3 ∉ gs) (h:c.cell? ⟨g2,0,none⟩ = some p ∧ c.cell? ⟨g2,1,none⟩ = some q ∧ c.cell? ⟨g3,0,none⟩ = some p' ∧ c.cell? ⟨g3,1,none⟩ = some q' ∧ c.frozen? ⟨g2,0,none⟩ = false ∧ c.frozen? ⟨g2,1,none⟩ = false ∧ c.frozen? ⟨g3,0,none⟩ = false ∧ c.frozen? ⟨g3,1,none⟩ = false ∧ Rs w gs c) :
  ((((c.setCell ⟨g2,0,none⟩ p').setCell ⟨g2,1,none⟩ q').setCell ⟨g3,0,none⟩ p).setCell ⟨g3,1,none⟩ q).cell? ⟨g2,0,none⟩ = some p' ∧ ((((c.setCell ⟨g2,0,none⟩ p').setCell ⟨g2,1,none⟩ q').setCell ⟨g3,0,none⟩ p).setCell ⟨g3,1,none⟩ q).cell? ⟨g2,1,none⟩ = some q' ∧ ((((c.setCell ⟨g2,0,none⟩ p').setCell ⟨g2,1,none⟩ q').setCell ⟨g3,0,none⟩ p).setCell ⟨g3,1,none⟩ q).cell? ⟨g3,0,none⟩ = some p ∧ ((((c.setCell ⟨g2,0,none⟩ p').setCell ⟨g2,1,none⟩ q').setCell ⟨g3,0,none⟩ p).setCell ⟨g3,1,none⟩ q).cell? ⟨g3,1,none⟩ = some q ∧ ((((c.setCell ⟨g2,0,none⟩ p').setCell ⟨g2,1,none⟩ q').setCell ⟨g3,0,none⟩ p).setCell ⟨g3,1,none⟩ q).frozen? ⟨g2,0,none⟩ = false ∧ ((((c.setCell ⟨g2,0,none⟩ p').setCell ⟨g2,1,none⟩ q').setCell ⟨g3,0,none⟩ p).setCell ⟨g3,1,none⟩ q).frozen? ⟨g2,1,none⟩ = false ∧ ((((c.setCell ⟨g2,0,none⟩ p').setCell ⟨g2,1,none⟩ q').setCell ⟨g3,0,none⟩ p).setCell ⟨g3,1,none⟩ q).frozen? ⟨g3,0,none⟩ = false ∧ ((((c.setCell ⟨g2,0,none⟩ p').setCell ⟨g2,1,none⟩ q').setCell ⟨g3,0,none⟩ p).setCell ⟨g3,1,none⟩ q).frozen? ⟨g3,1,none⟩ = false ∧ Rs w gs ((((c.setCell ⟨g2,0,none⟩ p').setCell ⟨g2,1,none⟩ q').setCell ⟨g3,0,none⟩ p).setCell ⟨g3,1,none⟩ q):=by
 obtain ⟨h1,h2,h3,h4,f1,f2,f3,f4,hB⟩:=keepSet hw hne hgs p' q' h
 obtain ⟨k3,k4,k1,k2,e3,e4,e1,e2,hB'⟩:=keepSet hw' hne.symm hgs' p q ⟨h3,h4,h1,h2,f3,f4,f1,f2,hB⟩
 exact ⟨k1,k2,k3,k4,e1,e2,e3,e4,hB'⟩
theorem keepFar {g i:Nat} (hw:w.heap.size ≤ g) (hg2:g ≠ g2) (hg3:g ≠ g3) (hgs:g ∉ gs) (u:Value) (h:c.cell? ⟨g2,0,none⟩ = some p ∧ c.cell? ⟨g2,1,none⟩ = some q ∧ c.cell? ⟨g3,0,none⟩ = some p' ∧ c.cell? ⟨g3,1,none⟩ = some q' ∧ c.frozen? ⟨g2,0,none⟩ = false ∧ c.frozen? ⟨g2,1,none⟩ = false ∧ c.frozen? ⟨g3,0,none⟩ = false ∧ c.frozen? ⟨g3,1,none⟩ = false ∧ Rs w gs c) :
  (c.setCell ⟨g,i,none⟩ u).cell? ⟨g2,0,none⟩ = some p ∧ (c.setCell ⟨g,i,none⟩ u).cell? ⟨g2,1,none⟩ = some q ∧ (c.setCell ⟨g,i,none⟩ u).cell? ⟨g3,0,none⟩ = some p' ∧ (c.setCell ⟨g,i,none⟩ u).cell? ⟨g3,1,none⟩ = some q' ∧ (c.setCell ⟨g,i,none⟩ u).frozen? ⟨g2,0,none⟩ = false ∧ (c.setCell ⟨g,i,none⟩ u).frozen? ⟨g2,1,none⟩ = false ∧ (c.setCell ⟨g,i,none⟩ u).frozen? ⟨g3,0,none⟩ = false ∧ (c.setCell ⟨g,i,none⟩ u).frozen? ⟨g3,1,none⟩ = false ∧ Rs w gs (c.setCell ⟨g,i,none⟩ u):=by
 obtain ⟨h1,h2,h3,h4,f1,f2,f3,f4,hB⟩:=h
 refine ⟨?_,?_,?_,?_,by simpa using f1,by simpa using f2,by simpa using f3,by simpa using f4,hB.far hw hgs _ _⟩
 ·rw [World.cell?_setCell_other _ _ _ _ (fun e=>hg2 (congrArg Addr.block e))]; exact h1
 ·rw [World.cell?_setCell_other _ _ _ _ (fun e=>hg2 (congrArg Addr.block e))]; exact h2
 ·rw [World.cell?_setCell_other _ _ _ _ (fun e=>hg3 (congrArg Addr.block e))]; exact h3
 ·rw [World.cell?_setCell_other _ _ _ _ (fun e=>hg3 (congrArg Addr.block e))]; exact h4
theorem keep1 (h:c.cell? ⟨g2,0,none⟩ = some p ∧ c.cell? ⟨g2,1,none⟩ = some q ∧ c.frozen? ⟨g2,0,none⟩ = false ∧ c.frozen? ⟨g2,1,none⟩ = false ∧ Rs w gs c) (hb:Below c.heap.size c w1):w1.cell? ⟨g2,0,none⟩ = some p ∧ w1.cell? ⟨g2,1,none⟩ = some q ∧ w1.frozen? ⟨g2,0,none⟩ = false ∧ w1.frozen? ⟨g2,1,none⟩ = false ∧ Rs w gs w1:=by
 obtain ⟨h1,h2,f1,f2,hB⟩:=h
 have l2:=World.block_lt_of_cell? c _ h1
 exact ⟨(hb.cell l2).trans h1,(hb.cell (p:=⟨g2,1,none⟩) l2).trans h2,(hb.frozen l2).trans f1,(hb.frozen (p:=⟨g2,1,none⟩) l2).trans f2,hB.below hb⟩
theorem keepC1 {g:Nat} (hw:w.heap.size ≤ g) (hg2:g ≠ g2) (n:Bool) (a:Option Addr) (l m:Nat) (h:c.cell? ⟨g2,0,none⟩ = some p ∧ c.cell? ⟨g2,1,none⟩ = some q ∧ c.frozen? ⟨g2,0,none⟩ = false ∧ c.frozen? ⟨g2,1,none⟩ = false ∧ Rs w gs c) :
  ((c.setCell ⟨g,0,none⟩ (.bool n)).setCell ⟨g,1,none⟩ (.slice a l m)).cell? ⟨g2,0,none⟩ = some p ∧ ((c.setCell ⟨g,0,none⟩ (.bool n)).setCell ⟨g,1,none⟩ (.slice a l m)).cell? ⟨g2,1,none⟩ = some q ∧ ((c.setCell ⟨g,0,none⟩ (.bool n)).setCell ⟨g,1,none⟩ (.slice a l m)).frozen? ⟨g2,0,none⟩ = false ∧ ((c.setCell ⟨g,0,none⟩ (.bool n)).setCell ⟨g,1,none⟩ (.slice a l m)).frozen? ⟨g2,1,none⟩ = false ∧ Rs w gs ((c.setCell ⟨g,0,none⟩ (.bool n)).setCell ⟨g,1,none⟩ (.slice a l m)):=by
 obtain ⟨h1,h2,f1,f2,hB⟩:=h
 refine ⟨?_,?_,by simpa using f1,by simpa using f2,hB.put hw _ _ _ _⟩
 ·rw [World.cell?_setCell_other _ _ _ _ (fun e=>hg2 (congrArg Addr.block e)),World.cell?_setCell_other _ _ _ _ (fun e=>hg2 (congrArg Addr.block e))]; exact h1
 ·rw [World.cell?_setCell_other _ _ _ _ (fun e=>hg2 (congrArg Addr.block e)),World.cell?_setCell_other _ _ _ _ (fun e=>hg2 (congrArg Addr.block e))]; exact h2
end
def Box (w:World) (gs:List Nat) (p q p' q':Value) (c:World):Prop:=c.cell? ⟨w.heap.size,0,none⟩ = some p ∧ c.cell? ⟨w.heap.size,1,none⟩ = some q ∧ c.cell? ⟨w.heap.size + 1,0,none⟩ = some p' ∧ c.cell? ⟨w.heap.size + 1,1,none⟩ = some q' ∧ c.frozen? ⟨w.heap.size,0,none⟩ = false ∧ c.frozen? ⟨w.heap.size,1,none⟩ = false ∧ c.frozen? ⟨w.heap.size + 1,0,none⟩ = false ∧ c.frozen? ⟨w.heap.size + 1,1,none⟩ = false ∧ Rs w gs c

set_option maxRecDepth 100000 in
set_option maxHeartbeats 3200000 in
theorem Add_any {x y:Int} {u v:Value} (w:World) (hx:IntV w u x) (hy:IntV w v y) (hn:Sm x) (hm:Sm y) :
  Calls Try.prog 17 #[u,v] w (IntPost w (x + y)):=by
 generalize hP:IntPost w (x + y) = Post
 have HP:=hide hP
 clear hP
 obtain ⟨a,ca,rfl,ha,hda⟩:=id hx
 obtain ⟨b,cb,rfl,hb,hdb⟩:=id hy
 have HX0:=hx
 have HY0:=hy
 clear hx hy
 have hX0:Blk (((w.alloc (.cells #[.bool (decide (x < 0)),.slice a (dg BB x.natAbs).length ca] 38)).alloc (.cells #[.bool (decide (y < 0)),.slice b (dg BB y.natAbs).length cb] 38)).alloc (.cells #[.bool false,.slice none 0 0] 38)) w.heap.size 38 #[.bool (decide (x < 0)),.slice a (dg BB x.natAbs).length ca]:=((Blk.new w _ _).alloc _).alloc _
 have hY0:Blk (((w.alloc (.cells #[.bool (decide (x < 0)),.slice a (dg BB x.natAbs).length ca] 38)).alloc (.cells #[.bool (decide (y < 0)),.slice b (dg BB y.natAbs).length cb] 38)).alloc (.cells #[.bool false,.slice none 0 0] 38)) (w.heap.size + 1) 38 #[.bool (decide (y < 0)),.slice b (dg BB y.natAbs).length cb]:=by
  have h:=Blk.new (w.alloc (.cells #[.bool (decide (x < 0)),.slice a (dg BB x.natAbs).length ca] 38)) 38 #[.bool (decide (y < 0)),.slice b (dg BB y.natAbs).length cb]
  rw [World.size_alloc] at h
  exact h.alloc _
 have hZ0:Blk (((w.alloc (.cells #[.bool (decide (x < 0)),.slice a (dg BB x.natAbs).length ca] 38)).alloc (.cells #[.bool (decide (y < 0)),.slice b (dg BB y.natAbs).length cb] 38)).alloc (.cells #[.bool false,.slice none 0 0] 38)) (w.heap.size + 1 + 1) 38 #[.bool false,.slice none 0 0]:=by
  have h:=Blk.new ((w.alloc (.cells #[.bool (decide (x < 0)),.slice a (dg BB x.natAbs).length ca] 38)).alloc (.cells #[.bool (decide (y < 0)),.slice b (dg BB y.natAbs).length cb] 38)) 38 #[.bool false,.slice none 0 0]
  simp only [World.size_alloc] at h
  exact h
 have hR0:Rs w [w.heap.size + 1 + 1] (((w.alloc (.cells #[.bool (decide (x < 0)),.slice a (dg BB x.natAbs).length ca] 38)).alloc (.cells #[.bool (decide (y < 0)),.slice b (dg BB y.natAbs).length cb] 38)).alloc (.cells #[.bool false,.slice none 0 0] 38)):=by
  refine ⟨(((Below.refl w.heap.size w).alloc (Nat.le_refl _) _).alloc (by simp) _).alloc (by simp; omega) _,?_⟩
  intro g hg
  simp at hg
  subst hg
  ·exact ⟨_,_,_,_,hZ0⟩
 go_enter Try.func17,Try.ntmps17
 go_upto_region 1 with (fail)
 generalize ((w.alloc (.cells #[.bool (decide (x < 0)),.slice a (dg BB x.natAbs).length ca] 38)).alloc (.cells #[.bool (decide (y < 0)),.slice b (dg BB y.natAbs).length cb] 38)).alloc (.cells #[.bool false,.slice none 0 0] 38) = W at hX0 hY0 hR0 hZ0 ⊢
 clear hZ0
 obtain ⟨c0,c1,cf⟩:=hX0.c2
 obtain ⟨d0,d1,df⟩:=hY0.c2
 have hR1:=hR0.drew
 have hwA:w.heap.size ≤ w.heap.size:=Nat.le_refl _
 have hneA:w.heap.size ≠ w.heap.size + 1:=by omega
 have hwB:w.heap.size ≤ w.heap.size + 1:=by omega
 have hneB:w.heap.size + 1 ≠ w.heap.size:=by omega
 have hgA:w.heap.size ∉ [w.heap.size + 1 + 1]:=by simp only [List.mem_cons,List.mem_nil_iff,or_false]; omega
 have hgB:w.heap.size + 1 ∉ [w.heap.size + 1 + 1]:=by simp only [List.mem_cons,List.mem_nil_iff,or_false]; omega
 have f20:=cf 0
 have f21:=cf 1
 have f30:=df 0
 have f31:=df 1
 have cxn:=dg_canon BB2 x.natAbs
 have cyn:=dg_canon BB2 y.natAbs
 have dxn:Digs BB (dg BB x.natAbs):=cxn.1
 have dyn:Digs BB (dg BB y.natAbs):=cyn.1
 have hsx:(dg BB x.natAbs).length ≤ 1099511627776:=hn
 have hsy:(dg BB y.natAbs).length ≤ 1099511627776:=hm
 have hvx:=dg_val BB2 x.natAbs
 have hvy:=dg_val BB2 y.natAbs
 have HS:Hid (decide (x < 0) = decide (y < 0) → signZ (decide (x < 0)) (val BB (dg BB x.natAbs) + val BB (dg BB y.natAbs)) = x + y):=hide (fun h=>by
  rw [hvx,hvy]
  by_cases h0:x < 0
  ·have h1:y < 0:=by simpa [h0] using h
   simp [signZ,h0]; omega
  ·have h1:¬ y < 0:=by simpa [h0] using h
   simp [signZ,h0]; omega)
 have HD1:Hid (decide (x < 0) ≠ decide (y < 0) → val BB (dg BB y.natAbs) ≤ val BB (dg BB x.natAbs) → signZ (decide (x < 0)) (val BB (dg BB x.natAbs) - val BB (dg BB y.natAbs)) = x + y):=hide (fun h hle=>by
  rw [hvx,hvy] at *
  by_cases h0:x < 0
  ·have h1:¬ y < 0:=by intro h1; exact h (by simp [h0,h1])
   simp [signZ,h0]; omega
  ·have h1:y < 0:=by rcases Int.lt_or_le y 0 with h1 | h1; exact h1; exact absurd (by simp [h0]; omega) h
   simp [signZ,h0]; omega)
 have HD2:Hid (decide (x < 0) ≠ decide (y < 0) → val BB (dg BB x.natAbs) < val BB (dg BB y.natAbs) → signZ (decide (y < 0)) (val BB (dg BB y.natAbs) - val BB (dg BB x.natAbs)) = x + y):=hide (fun h hle=>by
  rw [hvx,hvy] at *
  by_cases h0:y < 0
  ·have h1:¬ x < 0:=by intro h1; exact h (by simp [h0,h1])
   simp [signZ,h0]; omega
  ·have h1:x < 0:=by rcases Int.lt_or_le x 0 with h1 | h1; exact h1; exact absurd (by simp [h0]; omega) h
   simp [signZ,h0]; omega)
 clear hvx hvy
 generalize decide (x < 0) = nx at *
 generalize decide (y < 0) = ny at *
 generalize dg BB x.natAbs = dx at *
 generalize dg BB y.natAbs = dy at *
 go_region_held3 (fun w'=>w'.cell? ⟨w.heap.size,0,none⟩ = some (.bool nx) ∧ w'.cell? ⟨w.heap.size,1,none⟩ = some (.slice a dx.length ca) ∧ w'.cell? ⟨w.heap.size + 1,0,none⟩ = some (.bool ny) ∧ w'.cell? ⟨w.heap.size + 1,1,none⟩ = some (.slice b dy.length cb) ∧ w'.frozen? ⟨w.heap.size,0,none⟩ = false ∧ w'.frozen? ⟨w.heap.size,1,none⟩ = false ∧ w'.frozen? ⟨w.heap.size + 1,0,none⟩ = false ∧ w'.frozen? ⟨w.heap.size + 1,1,none⟩ = false ∧ Rs w [w.heap.size + 1 + 1] w')
  (first | with_reducible exact keep2 (by assumption) hb1 | with_reducible exact keepA2 hwA hneA hgA (by assumption) | with_reducible exact keepB2 hwB hneB hgB (by assumption) | go_keep)
  (first
   | (go_at_call_of 42 (Value.agg #[.bool nx,.slice a dx.length ca]); (with_reducible refine (right_at HX0 hn (by go_split_ands; exact Rs.bel (by assumption))).mono ?_); rintro e w1 ⟨rfl,hb1⟩)
   | (go_at_call_of 42 (Value.agg #[.bool ny,.slice b dy.length cb]); (with_reducible refine (right_at HY0 hm (by go_split_ands; exact Rs.bel (by assumption))).mono ?_); rintro e w1 ⟨rfl,hb1⟩))
 rename_i hS
 generalize ((((w1.setCell _ _).setCell _ _).setCell _ _).setCell _ _) = W1 at hS ⊢
 clear c0 c1 cf d0 d1 df f20 f21 f30 f31 hb1 hX0 hY0 hR0 hR1
 obtain ⟨c0,c1,d0,d1,f20,f21,f30,f31,hR⟩:=hS
 have hda1:=hda.below hR.1 (Nat.le_refl _)
 have hdb1:=hdb.below hR.1 (Nat.le_refl _)
 have hg4:w.heap.size + 1 + 1 ∈ [w.heap.size + 1 + 1]:=List.mem_singleton.2 rfl
 have hwC:w.heap.size ≤ w.heap.size + 1 + 1:=by omega
 have hgC2:w.heap.size + 1 + 1 ≠ w.heap.size:=by omega
 have hgC3:w.heap.size + 1 + 1 ≠ w.heap.size + 1:=by omega
 by_cases hs:nx = ny
 ·subst hs
  have HV:=hide (HS.out rfl)
  clear HS HD1 HD2
  go_upto_region 3 with (fail)
  have hR1:=hR.drew
  go_region_held3 (fun w'=>w'.cell? ⟨w.heap.size,0,none⟩ = some (.bool nx) ∧ w'.cell? ⟨w.heap.size,1,none⟩ = some (.slice a dx.length ca) ∧ w'.cell? ⟨w.heap.size + 1,0,none⟩ = some (.bool nx) ∧ w'.cell? ⟨w.heap.size + 1,1,none⟩ = some (.slice b dy.length cb) ∧ w'.frozen? ⟨w.heap.size,0,none⟩ = false ∧ w'.frozen? ⟨w.heap.size,1,none⟩ = false ∧ w'.frozen? ⟨w.heap.size + 1,0,none⟩ = false ∧ w'.frozen? ⟨w.heap.size + 1,1,none⟩ = false ∧ Rs w [w.heap.size + 1 + 1] w')
   (first | with_reducible exact keep2 (by assumption) hb1 | with_reducible exact keepC2 hwC hgC2 hgC3 _ _ _ _ (by assumption) | go_keep)
   (first
    | (go_at_call 44; (with_reducible refine (plus_at hda hdb dxn dyn hsx hsy (by go_split_ands; exact Rs.bel (by assumption))).mono ?_); rintro e w1 ⟨ra,rc,rs,rfl,hrf,hrd,hrD,hrv,hrl,hb1⟩)
    | (go_at_call 43; (with_reducible refine (signed_any nx ra rc rs _ hrd hrD hrf.le (by omega)).mono ?_); rintro e w2 ⟨r,rfl,hrI,hb1⟩; obtain ⟨rn,rb,rl,rk,rfl⟩:=hrI.parts; obtain ⟨_,_,_,_,k0,k1,kf0,kf1,hX4⟩:=Rs.at (c:=w1) (gs:=[w.heap.size + 1 + 1]) (by go_split_ands; assumption) hg4 hb1))
  rename_i hS
  obtain ⟨-,-,-,-,-,-,-,-,hRf⟩:=hS
  obtain ⟨e0,e1,-⟩:=(hX4.two (.bool rn) (.slice rb rl rk)).c2
  have hI:=hrI.store hX4 (.bool rn) (.slice rb rl rk)
  rw [hrv,HV.out] at hI
  go_wp2_with fail
  refine bodyPost_ret (v:=.agg #[.bool rn,.slice rb rl rk]) (by simp [results,Try.results17,go_sem,e0,e1]) rfl ?_
  rw [← HP.out]
  exact ⟨_,rfl,hI,hRf.1⟩
 ·have e1:(nx == ny) = false:=beq_eq_false_iff_ne.2 hs
  have HNE:=hide hs
  clear hs HS
  go_wp2_with fail
  refine (compare_any a b ca cb dx dy W1 hda1 hdb1 cxn cyn (by omega)).mono ?_
  rintro e w2 ⟨rfl,n,rfl⟩
  have hS2:(W1.drewN n).cell? ⟨w.heap.size,0,none⟩ = some (.bool nx) ∧ (W1.drewN n).cell? ⟨w.heap.size,1,none⟩ = some (.slice a dx.length ca) ∧ (W1.drewN n).cell? ⟨w.heap.size + 1,0,none⟩ = some (.bool ny) ∧ (W1.drewN n).cell? ⟨w.heap.size + 1,1,none⟩ = some (.slice b dy.length cb) ∧ (W1.drewN n).frozen? ⟨w.heap.size,0,none⟩ = false ∧ (W1.drewN n).frozen? ⟨w.heap.size,1,none⟩ = false ∧ (W1.drewN n).frozen? ⟨w.heap.size + 1,0,none⟩ = false ∧ (W1.drewN n).frozen? ⟨w.heap.size + 1,1,none⟩ = false ∧ Rs w [w.heap.size + 1 + 1] (W1.drewN n):=⟨c0,c1,d0,d1,f20,f21,f30,f31,⟨below_drewN hR.1 n,hR.2⟩⟩
  generalize W1.drewN n = W2 at hS2 ⊢
  clear c0 c1 d0 d1 f20 f21 f30 f31 hR hda1 hdb1
  by_cases hlt:val BB dx < val BB dy
  ·have HV:=hide (HD2.out HNE.out hlt)
   have hlen:dx.length ≤ dy.length:=by
    rcases Nat.lt_or_ge dy.length dx.length with h | h
    ·have:=cyn.lt_of_len cxn h; omega
    ·exact h
   have hv:val BB dx ≤ val BB dy:=by omega
   have ho:ordZ (val BB dx) (val BB dy) = -1:=by unfold ordZ; rw [if_pos (by omega)]
   rw [ho]
   clear ho HD1 HD2 hlt
   have hS3:=keepSwap hwA hwB hneA hgA hgB hS2
   obtain ⟨c0,c1,d0,d1,f20,f21,f30,f31,hR⟩:=hS2
   go_upto_region 6 with (fail)
   generalize (((W2.setCell _ _).setCell _ _).setCell _ _).setCell _ _ = W3 at hS3 ⊢
   clear c0 c1 d0 d1 f20 f21 f30 f31 hR
   obtain ⟨c0,c1,d0,d1,f20,f21,f30,f31,hR⟩:=hS3
   have hR1:=hR.drew
   go_region_held3 (fun w'=>w'.cell? ⟨w.heap.size,0,none⟩ = some (.bool ny) ∧ w'.cell? ⟨w.heap.size,1,none⟩ = some (.slice b dy.length cb) ∧ w'.cell? ⟨w.heap.size + 1,0,none⟩ = some (.bool nx) ∧ w'.cell? ⟨w.heap.size + 1,1,none⟩ = some (.slice a dx.length ca) ∧ w'.frozen? ⟨w.heap.size,0,none⟩ = false ∧ w'.frozen? ⟨w.heap.size,1,none⟩ = false ∧ w'.frozen? ⟨w.heap.size + 1,0,none⟩ = false ∧ w'.frozen? ⟨w.heap.size + 1,1,none⟩ = false ∧ Rs w [w.heap.size + 1 + 1] w')
    (first | with_reducible exact keep2 (by assumption) hb1 | with_reducible exact keepC2 hwC hgC2 hgC3 _ _ _ _ (by assumption) | go_keep)
    (first
     | (go_at_call 46; (with_reducible refine (minus_at hdb hda dyn dxn hsy hlen hv (by go_split_ands; exact Rs.bel (by assumption))).mono ?_); rintro e w1 ⟨ra,rc,rs,rfl,hrf,hrd,hrD,hrv,hrl,hb1⟩)
     | (go_at_call 43; (with_reducible refine (signed_any ny ra rc rs _ hrd hrD hrf.le (by omega)).mono ?_); rintro e w2 ⟨r,rfl,hrI,hb1⟩; obtain ⟨rn,rb,rl,rk,rfl⟩:=hrI.parts; obtain ⟨_,_,_,_,k0,k1,kf0,kf1,hX4⟩:=Rs.at (c:=w1) (gs:=[w.heap.size + 1 + 1]) (by go_split_ands; assumption) hg4 hb1))
   rename_i hS
   obtain ⟨-,-,-,-,-,-,-,-,hRf⟩:=hS
   obtain ⟨e0,e1,-⟩:=(hX4.two (.bool rn) (.slice rb rl rk)).c2
   have hI:=hrI.store hX4 (.bool rn) (.slice rb rl rk)
   rw [hrv,HV.out] at hI
   go_wp2_with fail
   refine bodyPost_ret (v:=.agg #[.bool rn,.slice rb rl rk]) (by simp [results,Try.results17,go_sem,e0,e1]) rfl ?_
   rw [← HP.out]
   exact ⟨_,rfl,hI,hRf.1⟩
  ·have HV:=hide (HD1.out HNE.out (by omega))
   have hlen:dy.length ≤ dx.length:=by
    rcases Nat.lt_or_ge dx.length dy.length with h | h
    ·have:=cxn.lt_of_len cyn h; omega
    ·exact h
   have hv:val BB dy ≤ val BB dx:=by omega
   have ho:0 ≤ ordZ (val BB dx) (val BB dy):=by unfold ordZ; rw [if_neg (by omega)]; split <;> omega
   generalize ordZ (val BB dx) (val BB dy) = o at ho ⊢
   clear HD1 HD2 hlt
   obtain ⟨c0,c1,d0,d1,f20,f21,f30,f31,hR⟩:=hS2
   go_upto_region 6 with (fail)
   have hR1:=hR.drew
   go_region_held3 (fun w'=>w'.cell? ⟨w.heap.size,0,none⟩ = some (.bool nx) ∧ w'.cell? ⟨w.heap.size,1,none⟩ = some (.slice a dx.length ca) ∧ w'.cell? ⟨w.heap.size + 1,0,none⟩ = some (.bool ny) ∧ w'.cell? ⟨w.heap.size + 1,1,none⟩ = some (.slice b dy.length cb) ∧ w'.frozen? ⟨w.heap.size,0,none⟩ = false ∧ w'.frozen? ⟨w.heap.size,1,none⟩ = false ∧ w'.frozen? ⟨w.heap.size + 1,0,none⟩ = false ∧ w'.frozen? ⟨w.heap.size + 1,1,none⟩ = false ∧ Rs w [w.heap.size + 1 + 1] w')
    (first | with_reducible exact keep2 (by assumption) hb1 | with_reducible exact keepC2 hwC hgC2 hgC3 _ _ _ _ (by assumption) | go_keep)
    (first
     | (go_at_call 46; (with_reducible refine (minus_at hda hdb dxn dyn hsx hlen hv (by go_split_ands; exact Rs.bel (by assumption))).mono ?_); rintro e w1 ⟨ra,rc,rs,rfl,hrf,hrd,hrD,hrv,hrl,hb1⟩)
     | (go_at_call 43; (with_reducible refine (signed_any nx ra rc rs _ hrd hrD hrf.le (by omega)).mono ?_); rintro e w2 ⟨r,rfl,hrI,hb1⟩; obtain ⟨rn,rb,rl,rk,rfl⟩:=hrI.parts; obtain ⟨_,_,_,_,k0,k1,kf0,kf1,hX4⟩:=Rs.at (c:=w1) (gs:=[w.heap.size + 1 + 1]) (by go_split_ands; assumption) hg4 hb1))
   rename_i hS
   obtain ⟨-,-,-,-,-,-,-,-,hRf⟩:=hS
   obtain ⟨e0,e1,-⟩:=(hX4.two (.bool rn) (.slice rb rl rk)).c2
   have hI:=hrI.store hX4 (.bool rn) (.slice rb rl rk)
   rw [hrv,HV.out] at hI
   go_wp2_with fail
   refine bodyPost_ret (v:=.agg #[.bool rn,.slice rb rl rk]) (by simp [results,Try.results17,go_sem,e0,e1]) rfl ?_
   rw [← HP.out]
   exact ⟨_,rfl,hI,hRf.1⟩

set_option maxRecDepth 100000 in
set_option maxHeartbeats 1600000 in
theorem Neg_any {x:Int} {u:Value} (w:World) (hx:IntV w u x) (hn:Sm x) :
  Calls Try.prog 22 #[u] w (IntPost w (-x)):=by
 generalize hP:IntPost w (-x) = Post
 have HP:=hide hP
 clear hP
 obtain ⟨a,ca,rfl,ha,hda⟩:=id hx
 have HX0:=hx
 clear hx
 have hX0:Blk ((w.alloc (.cells #[.bool (decide (x < 0)),.slice a (dg BB x.natAbs).length ca] 38)).alloc (.cells #[.bool false,.slice none 0 0] 38)) w.heap.size 38 #[.bool (decide (x < 0)),.slice a (dg BB x.natAbs).length ca]:=(Blk.new w _ _).alloc _
 have hZ0:Blk ((w.alloc (.cells #[.bool (decide (x < 0)),.slice a (dg BB x.natAbs).length ca] 38)).alloc (.cells #[.bool false,.slice none 0 0] 38)) (w.heap.size + 1) 38 #[.bool false,.slice none 0 0]:=by
  have h:=Blk.new (w.alloc (.cells #[.bool (decide (x < 0)),.slice a (dg BB x.natAbs).length ca] 38)) 38 #[.bool false,.slice none 0 0]
  simp only [World.size_alloc] at h
  exact h
 have hB0:Below w.heap.size w ((w.alloc (.cells #[.bool (decide (x < 0)),.slice a (dg BB x.natAbs).length ca] 38)).alloc (.cells #[.bool false,.slice none 0 0] 38)):=((Below.refl _ _).alloc (Nat.le_refl _) _).alloc (by simp) _
 go_enter Try.func22,Try.ntmps22
 go_wp2_with fail
 generalize (w.alloc (.cells #[.bool (decide (x < 0)),.slice a (dg BB x.natAbs).length ca] 38)).alloc (.cells #[.bool false,.slice none 0 0] 38) = W at hX0 hZ0 hB0 ⊢
 have cxn:=dg_canon BB2 x.natAbs
 have dxn:Digs BB (dg BB x.natAbs):=cxn.1
 have hsx:(dg BB x.natAbs).length ≤ 1099511627776:=hn
 have HV:Hid (signZ (!decide (x < 0)) (val BB (dg BB x.natAbs)) = -x):=hide (by
  rw [dg_val BB2]
  by_cases h0:x < 0
  ·simp [signZ,h0]; omega
  ·simp [signZ,h0]; omega)
 refine (right_at HX0 hn hB0).mono ?_
 rintro e w1 ⟨rfl,hb1⟩
 have hX1:=hX0.below hb1 hX0.lt
 have hZ1:=hZ0.below hb1 hZ0.lt
 have hB1:Below w.heap.size w w1:=hB0.trans (hb1.mono hB0.size)
 clear hX0 hZ0 hB0 hb1
 generalize decide (x < 0) = nx at *
 generalize dg BB x.natAbs = dx at *
 have hX2:=hX1.two (.bool nx) (.slice a dx.length ca)
 have hZ2:=(hZ1.far (p:=⟨w.heap.size,0,none⟩) (by simp) (.bool nx)).far (p:=⟨w.heap.size,1,none⟩) (by simp) (.slice a dx.length ca)
 have hB2:=(hB1.setCell (p:=⟨w.heap.size,0,none⟩) (Nat.le_refl _) (.bool nx)).setCell (p:=⟨w.heap.size,1,none⟩) (Nat.le_refl _) (.slice a dx.length ca)
 obtain ⟨c0,c1,cf⟩:=hX1.c2
 have hl1:=hX1.lt
 go_upto_region 2 with (fail)
 generalize (w1.setCell _ _).setCell _ _ = W1 at hX2 hZ2 hB2 ⊢
 clear c0 c1 cf hX1 hZ1 hB1 hl1
 obtain ⟨c0,c1,cf⟩:=hX2.c2
 have f20:=cf 0
 have f21:=cf 1
 have hR:Rs w [w.heap.size + 1] W1:=⟨hB2,fun g hg=>by obtain rfl:=List.mem_singleton.1 hg; exact ⟨_,_,_,_,hZ2⟩⟩
 have hg4:w.heap.size + 1 ∈ [w.heap.size + 1]:=List.mem_singleton.2 rfl
 have hwC:w.heap.size ≤ w.heap.size + 1:=by omega
 have hgC2:w.heap.size + 1 ≠ w.heap.size:=by omega
 have hR1:=hR.drew
 go_region_held3 (fun w'=>w'.cell? ⟨w.heap.size,0,none⟩ = some (.bool nx) ∧ w'.cell? ⟨w.heap.size,1,none⟩ = some (.slice a dx.length ca) ∧ w'.frozen? ⟨w.heap.size,0,none⟩ = false ∧ w'.frozen? ⟨w.heap.size,1,none⟩ = false ∧ Rs w [w.heap.size + 1] w')
  (first | with_reducible exact keep1 (by assumption) hb1 | with_reducible exact keepC1 hwC hgC2 _ _ _ _ (by assumption) | go_keep)
  (first
   | (go_at_call 47; (with_reducible refine (copied_at hda ha dxn hsx (by go_split_ands; exact Rs.bel (by assumption))).mono ?_); rintro e w1 ⟨ra,rc,rs,rfl,hrf,hrd,hrD,hrv,hrl,hb1⟩)
   | (go_at_call 43; (with_reducible refine (signed_any (!nx) ra rc rs _ hrd hrD hrf.le (by omega)).mono ?_); rintro e w2 ⟨r,rfl,hrI,hb1⟩; obtain ⟨rn,rb,rl,rk,rfl⟩:=hrI.parts; obtain ⟨_,_,_,_,k0,k1,kf0,kf1,hX4⟩:=Rs.at (c:=w1) (gs:=[w.heap.size + 1]) (by go_split_ands; assumption) hg4 hb1))
 rename_i hS
 obtain ⟨-,-,-,-,hRf⟩:=hS
 obtain ⟨e0,e1,-⟩:=(hX4.two (.bool rn) (.slice rb rl rk)).c2
 have hI:=hrI.store hX4 (.bool rn) (.slice rb rl rk)
 rw [hrv,HV.out] at hI
 go_wp2_with fail
 refine bodyPost_ret (v:=.agg #[.bool rn,.slice rb rl rk]) (by simp [results,Try.results22,go_sem,e0,e1]) rfl ?_
 rw [← HP.out]
 exact ⟨_,rfl,hI,hRf.1⟩

def DRow (k:IntKind) (t:TypeId) (w:World) (g:Nat) (ds:List Nat):Prop:=Blk w g t (dcells k ds).toArray
section
variable {k:IntKind} {t:TypeId} {w w':World} {g:Nat} {ds:List Nat}
theorem DRow.lt (h:DRow k t w g ds):g < w.heap.size:=Blk.lt h
theorem DRow.cell (h:DRow k t w g ds) {i:Nat} (hi:i < ds.length):w.cell? ⟨g,i,none⟩ = some (.int k (ds[i]:Int)):=by
 rw [Blk.cell h i]; simp [dcells,List.getElem?_eq_getElem hi]
theorem DRow.frozen (h:DRow k t w g ds) (i:Nat):w.frozen? ⟨g,i,none⟩ = false:=Blk.frozen h i
theorem DRow.set (h:DRow k t w g ds) (i d:Nat):DRow k t (w.setCell ⟨g,i,none⟩ (.int k (d:Int))) g (ds.set i d):=by
 have:=Blk.set_ h i (.int k (d:Int))
 unfold DRow
 have e:(dcells k (ds.set i d)).toArray = (dcells k ds).toArray.setIfInBounds i (.int k (d:Int)):=by
  simp [dcells,List.map_set]
 rw [e]
 exact this
theorem DRow.below (h:DRow k t w g ds) {B:Nat} (hb:Below B w w') (hg:g < B):DRow k t w' g ds:=Blk.below h hb hg
theorem DRow.far (h:DRow k t w g ds) {p:Addr} (hp:g ≠ p.block) (u:Value):DRow k t (w.setCell p u) g ds:=Blk.far h hp u
theorem DRow.alloc (h:DRow k t w g ds) (o:Obj):DRow k t (w.alloc o) g ds:=Blk.alloc h o
theorem DRow.dg (h:DRow k t w g ds):Dg k w (some ⟨g,0,none⟩) ds:=fun _=>⟨g,0,rfl,fun i hi=>by rw [Nat.zero_add]; exact h.cell hi⟩
end

theorem val_set {b:Nat}:∀ (ds:List Nat) (i d:Nat) (hi:i < ds.length),val b (ds.set i d) + b ^ i * ds[i] = val b ds + b ^ i * d
 | x :: r,0,d,_=>by simp [val]; omega
 | x :: r,i + 1,d,h=>by
  have ih:=val_set (b:=b) r i d (by simpa using h)
  simp only [List.set_cons_succ,val,List.getElem_cons_succ,Nat.pow_succ]
  rw [Nat.mul_comm (b ^ i) b,Nat.mul_assoc,Nat.mul_assoc]
  have:b * (val b (r.set i d) + b ^ i * r[i]'(by simpa using h)) = b * (val b r + b ^ i * d):=by rw [ih]
  rw [Nat.mul_add,Nat.mul_add] at this
  omega
theorem Digs.set {b:Nat} {ds:List Nat} (h:Digs b ds) {i d:Nat} (hd:d < b):Digs b (ds.set i d):=by
 intro x hx
 rcases List.mem_or_eq_of_mem_set hx with hx | rfl
 ·exact h x hx
 ·exact hd

theorem own_row {w:World} {base:Nat} {e:TypeId} {g n:Nat} {xs:List Value} (h:w.ownsRow base e 1 (.slice (some ⟨g,0,none⟩) n n) n xs):Blk w g e xs.toArray:=by
 rcases h.2 with ⟨hv,_⟩ | ⟨g',c,cur,hv,_,hg,hle,_,hsz,htk⟩
 ·cases hv
 ·injection hv with h1 _ h2
  injection h1 with h1
  injection h1 with h1
  subst h1 h2
  unfold Blk
  rw [hg]
  have:cur = xs.toArray:=by
   rw [Nat.mul_one] at htk hsz
   rw [← htk,List.take_of_length_le (by simp; omega)]
  rw [this]

theorem made_zero (k:IntKind) (n:Nat):(madeCells (Value.int k 0).cells (n * 1)).toList = dcells k (List.replicate n 0):=by
 rw [Nat.mul_one]
 unfold madeCells dcells
 simp only [Value.cells,Array.toList_map,Array.toList_range,List.map_replicate]
 apply List.ext_getElem
 ·simp
 ·intro i h1 h2
  simp [Nat.mod_one]

theorem wpList_make_zero {w:World} {ops:Array Oper} {rest:List Oper} {o:Oper} {a:Act} {Q:Exit → Act → World → Prop} (hgd:o.guard = none) (l c:Operand) (ho:o.op = Op.makeSlice 36 l c)
  (L C:Int) (n:Nat) (hl:a.eval l = .int .i64 L) (hc:a.eval c = .int .i64 C) (hL:L = (n:Int)) (hC:C = (n:Int)) (hn:n ≤ 4398046511104)
  (hK:∀ w',DRow .u32 85 w' w.heap.size (List.replicate n 0) → Below w.heap.size w w' → wpList Try.prog ops Q rest (a.put o.dst (.slice (some ⟨w.heap.size,0,none⟩) n n)) w'):wpList Try.prog ops Q (o :: rest) a w:=by
 obtain ⟨i0,hi0,hz0,hz1,hz2⟩:=info_parts info32
 refine wpList_make_full w hgd l c 36 ho w.heap.size 85 i0 (.int .u32 0) 1 Try.underlying36 hi0 hz0 hz1 .i64 .i64 L C n hl hc hL hC (by rw [hz2]; omega) (by unfold maxLen; omega) (Nat.le_refl _) (fun w' h1 h2=>hK w' ?_ (below_of_grown h2 (fun g h=>by cases h) (Nat.le_refl _)))
 rw [made_zero] at h1
 exact own_row h1
end Go.Proofs.Ytphjffbldhhdiaa

namespace Go.Proofs.Ytphjffbldhhdiaa

structure MRow (x y:List Nat) (i:Nat) (out:List Nat):Prop where
 len:out.length = x.length + y.length
 digs:Digs BB out
 val_:val BB out = val BB (x.take i) * val BB y
 zero:∀ k,i + y.length ≤ k → k < out.length → out[k]? = some 0
structure IRow (y:List Nat) (i:Nat) (a:Nat) (o0:List Nat) (j:Nat) (out:List Nat) (c:Nat):Prop where
 len:out.length = o0.length
 digs:Digs BB out
 car:c < BB
 val_:val BB out + BB ^ (i + j) * c = val BB o0 + BB ^ i * (a * val BB (y.take j))
 rest:∀ k,i + j ≤ k → out[k]? = o0[k]?

theorem MRow.start (x y:List Nat):MRow x y 0 (List.replicate (x.length + y.length) 0):=by
 refine ⟨by simp,?_,by simp [val,val_zeros],fun k _ hk=>by simp at hk; simp [hk]⟩
 intro d hd
 have:=List.eq_of_mem_replicate hd
 rw [this,BB_eq]; omega
theorem IRow.start {y:List Nat} {i a:Nat} {o0:List Nat} (h:Digs BB o0):IRow y i a o0 0 o0 0:=
 ⟨rfl,h,by rw [BB_eq]; omega,by simp [val],fun _ _=>rfl⟩

theorem IRow.next {y:List Nat} {i a j c q r:Nat} {o0 out:List Nat} (h:IRow y i a o0 j out c) (hj:j < y.length) (ho:i + j < out.length) (hq:c + (out[i + j] + a * y[j]) = BB * q + r) (hr:r < BB) (hq1:q < BB) :
  IRow y i a o0 (j + 1) (out.set (i + j) r) q:=by
 refine ⟨by simp [h.len],h.digs.set hr,hq1,?_,?_⟩
 ·have hs:=val_set (b:=BB) out (i + j) r ho
  have hv:=h.val_
  have hy:val BB (y.take (j + 1)) = val BB (y.take j) + BB ^ j * y[j]:=by
   rw [List.take_succ_eq_append_getElem hj,val_snoc,List.length_take,Nat.min_eq_left (by omega)]
  rw [hy]
  have e1:BB ^ i * (a * (val BB (y.take j) + BB ^ j * y[j])) = BB ^ i * (a * val BB (y.take j)) + BB ^ (i + j) * (a * y[j]):=by
   rw [Nat.mul_add,Nat.mul_add,Nat.pow_add,Nat.mul_assoc]
   congr 1
   rw [← Nat.mul_assoc a,Nat.mul_comm a,Nat.mul_assoc]
  have e2:BB ^ (i + j) * (c + (out[i + j] + a * y[j])) = BB ^ (i + (j + 1)) * q + BB ^ (i + j) * r:=by
   rw [hq,Nat.mul_add,← Nat.add_assoc i j 1,Nat.pow_succ,Nat.mul_assoc]
  rw [Nat.mul_add,Nat.mul_add] at e2
  rw [e1]
  omega
 ·intro k hk
  rw [List.getElem?_set_ne (by omega)]
  exact h.rest k (by omega)

theorem MRow.next {x y:List Nat} {i c:Nat} {o0 out:List Nat} (h:MRow x y i o0) (hi:i < x.length) (hI:IRow y i x[i] o0 y.length out c):MRow x y (i + 1) (out.set (i + y.length) c):=by
 have hlen:=hI.len
 have hl0:=h.len
 have ho:i + y.length < out.length:=by omega
 refine ⟨by simp [hlen,hl0],hI.digs.set hI.car,?_,?_⟩
 ·have hz:out[i + y.length] = 0:=by
   have h1:=hI.rest (i + y.length) (Nat.le_refl _)
   rw [h.zero _ (Nat.le_refl _) (by omega),List.getElem?_eq_getElem ho] at h1
   exact Option.some.inj h1
  have hs:=val_set (b:=BB) out (i + y.length) c ho
  have hv:=hI.val_
  rw [hz] at hs
  rw [List.take_length] at hv
  have hx:val BB (x.take (i + 1)) = val BB (x.take i) + BB ^ i * x[i]:=by
   rw [List.take_succ_eq_append_getElem hi,val_snoc,List.length_take,Nat.min_eq_left (by omega)]
  rw [hx,Nat.add_mul,Nat.mul_assoc,← h.val_]
  omega
 ·intro k hk hkl
  rw [List.getElem?_set_ne (by omega),hI.rest k (by omega)]
  exact h.zero k (by omega) (by simp at hkl; omega)
theorem MRow.done {x y out:List Nat} {i:Nat} (h:MRow x y i out) (hi:x.length ≤ i):val BB out = val BB x * val BB y:=by
 rw [h.val_,List.take_of_length_le hi]
end Go.Proofs.Ytphjffbldhhdiaa

namespace Go.Proofs.Ytphjffbldhhdiaa
open Go.RowKit

theorem sign_mul (x y:Int):signZ (decide (x < 0) != decide (y < 0)) (x.natAbs * y.natAbs) = x * y:=by
 unfold signZ
 rcases Int.lt_or_le x 0 with hx | hx <;> rcases Int.lt_or_le y 0 with hy | hy
 ·simp only [hx,hy,decide_true,bne_self_eq_false,Bool.false_eq_true,if_false]
  rw [← Int.natAbs_mul]
  have:0 < x * y:=Int.mul_pos_of_neg_of_neg hx hy
  omega
 ·have h1:¬ y < 0:=by omega
  simp only [hx,h1,decide_true,decide_false,bne]
  rw [← Int.natAbs_mul]
  have:x * y ≤ 0:=Int.mul_nonpos_of_nonpos_of_nonneg (by omega) hy
  simp; omega
 ·have h1:¬ x < 0:=by omega
  simp only [hy,h1,decide_true,decide_false,bne]
  rw [← Int.natAbs_mul]
  have:x * y ≤ 0:=Int.mul_nonpos_of_nonneg_of_nonpos hx (by omega)
  simp; omega
 ·have h1:¬ x < 0:=by omega
  have h2:¬ y < 0:=by omega
  simp only [h1,h2,decide_false,bne_self_eq_false,Bool.false_eq_true,if_false]
  rw [← Int.natAbs_mul]
  have:0 ≤ x * y:=Int.mul_nonneg hx hy
  omega

set_option maxRecDepth 100000 in
set_option maxHeartbeats 3200000 in
theorem Mul_any {x y:Int} {u v:Value} (w:World) (hx:IntV w u x) (hy:IntV w v y) (hn:Sm x) (hm:Sm y) :
  Calls Try.prog 18 #[u,v] w (IntPost w (x * y)):=by
 generalize hP:IntPost w (x * y) = Post
 have HP:=hide hP
 clear hP
 obtain ⟨a,ca,rfl,ha,hda⟩:=id hx
 obtain ⟨b,cb,rfl,hb,hdb⟩:=id hy
 have HX0:=hx
 have HY0:=hy
 clear hx hy
 have hX0:Blk (((w.alloc (.cells #[.bool (decide (x < 0)),.slice a (dg BB x.natAbs).length ca] 38)).alloc (.cells #[.bool (decide (y < 0)),.slice b (dg BB y.natAbs).length cb] 38)).alloc (.cells #[.bool false,.slice none 0 0] 38)) w.heap.size 38 #[.bool (decide (x < 0)),.slice a (dg BB x.natAbs).length ca]:=((Blk.new w _ _).alloc _).alloc _
 have hY0:Blk (((w.alloc (.cells #[.bool (decide (x < 0)),.slice a (dg BB x.natAbs).length ca] 38)).alloc (.cells #[.bool (decide (y < 0)),.slice b (dg BB y.natAbs).length cb] 38)).alloc (.cells #[.bool false,.slice none 0 0] 38)) (w.heap.size + 1) 38 #[.bool (decide (y < 0)),.slice b (dg BB y.natAbs).length cb]:=by
  have h:=Blk.new (w.alloc (.cells #[.bool (decide (x < 0)),.slice a (dg BB x.natAbs).length ca] 38)) 38 #[.bool (decide (y < 0)),.slice b (dg BB y.natAbs).length cb]
  rw [World.size_alloc] at h
  exact h.alloc _
 have hZ0:Blk (((w.alloc (.cells #[.bool (decide (x < 0)),.slice a (dg BB x.natAbs).length ca] 38)).alloc (.cells #[.bool (decide (y < 0)),.slice b (dg BB y.natAbs).length cb] 38)).alloc (.cells #[.bool false,.slice none 0 0] 38)) (w.heap.size + 1 + 1) 38 #[.bool false,.slice none 0 0]:=by
  have h:=Blk.new ((w.alloc (.cells #[.bool (decide (x < 0)),.slice a (dg BB x.natAbs).length ca] 38)).alloc (.cells #[.bool (decide (y < 0)),.slice b (dg BB y.natAbs).length cb] 38)) 38 #[.bool false,.slice none 0 0]
  simp only [World.size_alloc] at h
  exact h
 have hR0:Rs w [w.heap.size + 1 + 1] (((w.alloc (.cells #[.bool (decide (x < 0)),.slice a (dg BB x.natAbs).length ca] 38)).alloc (.cells #[.bool (decide (y < 0)),.slice b (dg BB y.natAbs).length cb] 38)).alloc (.cells #[.bool false,.slice none 0 0] 38)):=by
  refine ⟨(((Below.refl w.heap.size w).alloc (Nat.le_refl _) _).alloc (by simp) _).alloc (by simp; omega) _,?_⟩
  intro g hg
  simp at hg
  subst hg
  ·exact ⟨_,_,_,_,hZ0⟩
 go_enter Try.func18,Try.ntmps18
 go_upto_region 1 with (fail)
 generalize ((w.alloc (.cells #[.bool (decide (x < 0)),.slice a (dg BB x.natAbs).length ca] 38)).alloc (.cells #[.bool (decide (y < 0)),.slice b (dg BB y.natAbs).length cb] 38)).alloc (.cells #[.bool false,.slice none 0 0] 38) = W at hX0 hY0 hR0 hZ0 ⊢
 clear hZ0
 obtain ⟨c0,c1,cf⟩:=hX0.c2
 obtain ⟨d0,d1,df⟩:=hY0.c2
 have hR1:=hR0.drew
 have hwA:w.heap.size ≤ w.heap.size:=Nat.le_refl _
 have hneA:w.heap.size ≠ w.heap.size + 1:=by omega
 have hwB:w.heap.size ≤ w.heap.size + 1:=by omega
 have hneB:w.heap.size + 1 ≠ w.heap.size:=by omega
 have hgA:w.heap.size ∉ [w.heap.size + 1 + 1]:=by simp only [List.mem_cons,List.mem_nil_iff,or_false]; omega
 have hgB:w.heap.size + 1 ∉ [w.heap.size + 1 + 1]:=by simp only [List.mem_cons,List.mem_nil_iff,or_false]; omega
 have f20:=cf 0
 have f21:=cf 1
 have f30:=df 0
 have f31:=df 1
 have cxn:=dg_canon BB2 x.natAbs
 have cyn:=dg_canon BB2 y.natAbs
 have dxn:Digs BB (dg BB x.natAbs):=cxn.1
 have dyn:Digs BB (dg BB y.natAbs):=cyn.1
 have hsx:(dg BB x.natAbs).length ≤ 1099511627776:=hn
 have hsy:(dg BB y.natAbs).length ≤ 1099511627776:=hm
 have hvx:=dg_val BB2 x.natAbs
 have hvy:=dg_val BB2 y.natAbs
 have HS:Hid (signZ (decide (x < 0) != decide (y < 0)) (val BB (dg BB x.natAbs) * val BB (dg BB y.natAbs)) = x * y):=hide (by rw [hvx,hvy]; exact sign_mul x y)
 clear hvx hvy
 generalize decide (x < 0) = nx at *
 generalize decide (y < 0) = ny at *
 generalize dg BB x.natAbs = dx at *
 generalize dg BB y.natAbs = dy at *
 go_region_held3 (fun w'=>w'.cell? ⟨w.heap.size,0,none⟩ = some (.bool nx) ∧ w'.cell? ⟨w.heap.size,1,none⟩ = some (.slice a dx.length ca) ∧ w'.cell? ⟨w.heap.size + 1,0,none⟩ = some (.bool ny) ∧ w'.cell? ⟨w.heap.size + 1,1,none⟩ = some (.slice b dy.length cb) ∧ w'.frozen? ⟨w.heap.size,0,none⟩ = false ∧ w'.frozen? ⟨w.heap.size,1,none⟩ = false ∧ w'.frozen? ⟨w.heap.size + 1,0,none⟩ = false ∧ w'.frozen? ⟨w.heap.size + 1,1,none⟩ = false ∧ Rs w [w.heap.size + 1 + 1] w')
  (first | with_reducible exact keep2 (by assumption) hb1 | with_reducible exact keepA2 hwA hneA hgA (by assumption) | with_reducible exact keepB2 hwB hneB hgB (by assumption) | go_keep)
  (first
   | (go_at_call_of 42 (Value.agg #[.bool nx,.slice a dx.length ca]); (with_reducible refine (right_at HX0 hn (by go_split_ands; exact Rs.bel (by assumption))).mono ?_); rintro e w1 ⟨rfl,hb1⟩)
   | (go_at_call_of 42 (Value.agg #[.bool ny,.slice b dy.length cb]); (with_reducible refine (right_at HY0 hm (by go_split_ands; exact Rs.bel (by assumption))).mono ?_); rintro e w1 ⟨rfl,hb1⟩))
 rename_i hS
 generalize ((((w1.setCell _ _).setCell _ _).setCell _ _).setCell _ _) = W1 at hS ⊢
 clear c0 c1 cf d0 d1 df f20 f21 f30 f31 hb1 hX0 hY0 hR0 hR1
 obtain ⟨c0,c1,d0,d1,f20,f21,f30,f31,hR⟩:=hS
 have hda1:=hda.below hR.1 (Nat.le_refl _)
 have hdb1:=hdb.below hR.1 (Nat.le_refl _)
 go_wp2_with (at_make; refine wpList_make_zero rfl _ _ rfl _ _ (dx.length + dy.length) rfl rfl (by omega) (by omega) (by omega) ?_)
 intro w2 hrow hb2
 have hS0:W1.cell? ⟨w.heap.size,0,none⟩ = some (.bool nx) ∧ W1.cell? ⟨w.heap.size,1,none⟩ = some (.slice a dx.length ca) ∧ W1.cell? ⟨w.heap.size + 1,0,none⟩ = some (.bool ny) ∧ W1.cell? ⟨w.heap.size + 1,1,none⟩ = some (.slice b dy.length cb) ∧ W1.frozen? ⟨w.heap.size,0,none⟩ = false ∧ W1.frozen? ⟨w.heap.size,1,none⟩ = false ∧ W1.frozen? ⟨w.heap.size + 1,0,none⟩ = false ∧ W1.frozen? ⟨w.heap.size + 1,1,none⟩ = false ∧ Rs w [w.heap.size + 1 + 1] W1:=⟨c0,c1,d0,d1,f20,f21,f30,f31,hR⟩
 have hS2:=keep2 hS0 hb2
 have hGlt:w.heap.size + 1 + 1 < W1.heap.size:=by
  obtain ⟨_,_,_,_,hk⟩:=hR.2 _ (List.mem_singleton.2 rfl)
  exact hk.lt
 have hG0:w.heap.size ≤ W1.heap.size:=by omega
 have hG2:W1.heap.size ≠ w.heap.size:=by omega
 have hG3:W1.heap.size ≠ w.heap.size + 1:=by omega
 have hGs:W1.heap.size ∉ [w.heap.size + 1 + 1]:=by simp only [List.mem_cons,List.mem_nil_iff,or_false]; omega
 have hM0:=MRow.start dx dy
 clear hS0 c0 c1 d0 d1 f20 f21 f30 f31 hR hda1 hdb1 hb2
 generalize W1.heap.size = G at *
 obtain ⟨c0,c1,d0,d1,f20,f21,f30,f31,hR⟩:=id hS2
 go_wp2_with fail
 go_loopg [26] dx.length (fun r v wr=>∃ (i:Nat) (out:List Nat),i + r = dx.length ∧ v = .int .i64 (i:Int) ∧ MRow dx dy i out ∧ DRow .u32 85 wr G out ∧ Box w [w.heap.size + 1 + 1] (.bool nx) (.slice a dx.length ca) (.bool ny) (.slice b dy.length cb) wr)
 case atStart=>exact ⟨0,_,by omega,rfl,hM0,hrow,hS2⟩
 case round=>
  obtain ⟨i,out,hir,rfl,hM,hD,hBx⟩:=hrel
  have HI:=hide hir
  clear hir hM0 hrow hS2 c0 c1 d0 d1 f20 f21 f30 f31 hR
  obtain ⟨c0,c1,d0,d1,f20,f21,f30,f31,hR⟩:=id hBx
  have hol:=hM.len
  rcases Nat.lt_or_ge i dx.length with hi | hi
  ·obtain ⟨b1,o1,rfl,hc1,hl1⟩:=hda.at hi
   replace hc1:=(hR.1.cell (p:=⟨b1,o1 + i,none⟩) hl1).trans hc1
   have ha9:=dxn.at hi
   have hI0:IRow dy i dx[i] out 0 out 0:=IRow.start hM.digs
   have HMN:=hide (fun (o':List Nat) (c:Nat)=>MRow.next (out:=o') (c:=c) hM hi)
   generalize dx[i] = A at hc1 ha9 hI0 HMN
   have hA9:A < 1000000000:=by rw [BB_eq] at ha9; exact ha9
   clear ha9
   obtain ⟨wo,hwo⟩:∃ wo:World,wo = wr:=⟨_,rfl⟩
   subst hwo
   obtain ⟨go,hgo⟩:∃ go:Nat,go = gk:=⟨_,rfl⟩
   subst hgo
   go_wp2_with fail
   go_loopg [8,34] dy.length (fun r c v wr=>∃ (j:Nat) (o':List Nat) (cc:Nat),j + r = dy.length ∧ v = .int .i64 (j:Int) ∧ c = .int .u64 (cc:Int) ∧ IRow dy i A out j o' cc ∧ DRow .u32 85 wr G o' ∧ Box w [w.heap.size + 1 + 1] (.bool nx) (.slice (some ⟨b1,o1,none⟩) dx.length ca) (.bool ny) (.slice b dy.length cb) wr)
   case atStart=>exact ⟨0,out,0,by omega,rfl,rfl,hI0,hD,hBx⟩
   case round=>
    obtain ⟨j,o',cc,hjr,rfl,rfl,hI,hD',hBx'⟩:=hrel
    have HJ:=hide hjr
    clear hjr hI0 hD hBx c0 c1 d0 d1 f20 f21 f30 f31 hR hc1
    obtain ⟨c0,c1,d0,d1,f20,f21,f30,f31,hR⟩:=id hBx'
    have hol':=hI.len
    rcases Nat.lt_or_ge j dy.length with hj | hj
    ·obtain ⟨b2,o2,rfl,hc2,hl2⟩:=hdb.at hj
     replace hc2:=(hR.1.cell (p:=⟨b2,o2 + j,none⟩) hl2).trans hc2
     have hb9:=dyn.at hj
     have hij:i + j < o'.length:=by omega
     have hij2:i + j < dx.length + dy.length:=by omega
     have hco:=hD'.cell hij
     have hfo:=hD'.frozen (i + j)
     have ho9:=hI.digs.at hij
     have hcc9:=hI.car
     have HN:=hide (fun (q r:Nat)=>IRow.next (q:=q) (r:=r) hI hj hij)
     have HDS:=hide (fun (r:Nat)=>hD'.set (i + j) r)
     have HBS:=hide (fun (u:Value)=>(show Box w [w.heap.size + 1 + 1] (.bool nx) (.slice (some ⟨b1,o1,none⟩) dx.length ca) (.bool ny) (.slice (some ⟨b2,o2,none⟩) dy.length cb) (wr.setCell ⟨G,i + j,none⟩ u) from keepFar hG0 hG2 hG3 hGs u hBx'))
     generalize dy[j] = B at hc2 hb9 HN
     generalize o'[i + j] = O at hco ho9 HN
     rw [BB_eq] at hb9 ho9 hcc9
     clear hI hD' hBx'
     have hab2:A * B ≤ 999999999 * 999999999:=Nat.mul_le_mul (by omega) (by omega)
     obtain ⟨AB,hAB⟩:∃ AB:Nat,A * B = AB:=⟨_,rfl⟩
     rw [hAB] at hab2 HN
     have hab:(A:Int) * (B:Int) = (AB:Int):=by rw [← hAB]; simp
     clear hAB
     obtain ⟨r,hr⟩:∃ r:Nat,r = (cc + (O + AB)) % 1000000000:=⟨_,rfl⟩
     obtain ⟨q,hq⟩:∃ q:Nat,q = (cc + (O + AB)) / 1000000000:=⟨_,rfl⟩
     have hr1:((cc:Int) + ((O:Int) + (AB:Int))) % 1000000000 = (r:Int):=by omega
     have hq1:((cc:Int) + ((O:Int) + (AB:Int))) / 1000000000 = (q:Int):=by omega
     have HF:Hid (cc + (O + AB) = BB * q + r ∧ r < BB ∧ q < BB):=hide (by rw [BB_eq]; omega)
     have hr9:r < 1000000000:=by omega
     clear hr hq
     go_wp2_with fail
     have hjr:=HJ.out
     have hN:=HN.out q r HF.out.1 HF.out.2.1 HF.out.2.2
     go_roundg (gk - 1)
     case measure=>omega
     case rel=>exact ⟨j + 1,_,q,by omega,by go_num,by rw [hq1],hN,HDS.out r,HBS.out _⟩
    ·obtain rfl:j = dy.length:=by have:=HJ.out; omega
     have hij:i + dy.length < o'.length:=by omega
     have hij2:i + dy.length < dx.length + dy.length:=by omega
     have hco:=hD'.cell hij
     have hfo:=hD'.frozen (i + dy.length)
     have hcc9:=hI.car
     rw [BB_eq] at hcc9
     have HMN2:=hide (HMN.out o' cc hI)
     have HDS:=hide (hD'.set (i + dy.length) cc)
     have HBS:=hide (fun (u:Value)=>(show Box w [w.heap.size + 1 + 1] (.bool nx) (.slice (some ⟨b1,o1,none⟩) dx.length ca) (.bool ny) (.slice b dy.length cb) (wr.setCell ⟨G,i + dy.length,none⟩ u) from keepFar hG0 hG2 hG3 hGs u hBx'))
     generalize o'[i + dy.length] = O at hco
     clear hI hD' hBx' HMN
     go_wp2_with fail
     have hir:=HI.out
     go_roundg (go - 1)
     case measure=>omega
     case rel=>exact ⟨i + 1,_,by omega,by go_num,HMN2.out,HDS.out,HBS.out _⟩
  ·have hgd:=hD.dg
   have HV:Hid (signZ (nx != ny) (val BB out) = x * y):=hide (by rw [hM.done hi]; exact HS.out)
   have hod:=hM.digs
   have hsg:=signed_any (nx != ny) (some ⟨G,0,none⟩) (dx.length + dy.length) out wr hgd hod (by omega) (by omega)
   rw [hol] at hsg
   go_wp2_with fail
   refine hsg.mono ?_
   rintro e w3 ⟨r,rfl,hrI,hb3⟩
   obtain ⟨rn,rb,rl,rk,rfl⟩:=hrI.parts
   obtain ⟨_,_,_,_,k0,k1,kf0,kf1,hX4⟩:=hR.at (List.mem_singleton.2 rfl) hb3
   obtain ⟨e0,e1,-⟩:=(hX4.two (.bool rn) (.slice rb rl rk)).c2
   have hI:=hrI.store hX4 (.bool rn) (.slice rb rl rk)
   rw [HV.out] at hI
   have hRf:=(hR.below hb3).put (g:=w.heap.size + 1 + 1) (by omega) rn rb rl rk
   clear hsg
   go_wp2_with fail
   refine bodyPost_ret (v:=.agg #[.bool rn,.slice rb rl rk]) (by simp [results,Try.results18,go_sem,e0,e1]) rfl ?_
   rw [← HP.out]
   exact ⟨_,rfl,hI,hRf.1⟩

structure ShSt (x:List Nat) (b k:Nat) (out:List Nat) (l:Nat):Prop where
 len:out.length = x.length
 digs:Digs BB out
 lt:l < b
 val_:val BB (x.drop k) = b * val BB (out.drop k) + l

theorem ShSt.start {x:List Nat} {b:Nat} (hb:1 ≤ b):ShSt x b x.length (List.replicate x.length 0) 0:=by
 refine ⟨by simp,fun d hd=>?_,by omega,by simp [val]⟩
 have:=List.eq_of_mem_replicate hd
 rw [this,BB_eq]; omega
theorem ShSt.next {x:List Nat} {b i l q r:Nat} {out:List Nat} (h:ShSt x b (i + 1) out l) (hi:i < x.length) (hq:l * 1000000000 + x[i] = b * q + r) (hr:r < b) (hqB:q < 1000000000):ShSt x b i (out.set i q) r:=by
 have hio:i < out.length:=by rw [h.len]; exact hi
 refine ⟨by simp [h.len],h.digs.set (by rw [BB_eq]; exact hqB),hr,?_⟩
 have e1:(out.set i q).drop i = q :: out.drop (i + 1):=by
  rw [List.drop_eq_getElem_cons (by simpa using hio),List.getElem_set_self,List.drop_set_of_lt (by omega)]
 rw [e1,List.drop_eq_getElem_cons hi]
 simp only [val]
 rw [h.val_,Nat.mul_add,Nat.mul_add]
 have h2:BB * l + x[i] = b * q + r:=by rw [BB_eq,Nat.mul_comm]; exact hq
 have h3:BB * (b * val BB (out.drop (i + 1))) = b * (BB * val BB (out.drop (i + 1))):=by
  rw [← Nat.mul_assoc,Nat.mul_comm BB b,Nat.mul_assoc]
 omega

theorem cast_sum (l d:Nat):((l * 1000000000 + d:Nat):Int) = (l:Int) * 1000000000 + (d:Int):=by omega
theorem cast_div (l d b:Nat):((l:Int) * 1000000000 + (d:Int)) / (b:Int) = (((l * 1000000000 + d) / b:Nat):Int):=by rw [Int.natCast_ediv,cast_sum]
theorem cast_mod (l d b:Nat):((l:Int) * 1000000000 + (d:Int)) % (b:Int) = (((l * 1000000000 + d) % b:Nat):Int):=by rw [Int.natCast_emod,cast_sum]

def ShPost (w:World) (x:List Nat) (b:Nat) (e:Ending) (w':World):Prop:=
 ∃ a cap out,e = .returned (.tuple #[.slice a (List.length out) cap,.int .u32 ((val BB x % b:Nat):Int)]) ∧ Fit a out.length cap ∧ Dg .u32 w' a out ∧ Digs BB out ∧ val BB out = val BB x / b ∧ out.length = x.length ∧ Below w.heap.size w w'

set_option maxRecDepth 100000 in
set_option maxHeartbeats 1600000 in
theorem short_any (p:Option Addr) (cp:Nat) (X:List Nat) (b:Nat) (w:World) (hX:Dg .u32 w p X) (dX:Digs BB X) (hXn:X.length ≤ 1099511627776) (hb1:1 ≤ b) (hb9:b ≤ 1000000000) :
  Calls Try.prog 84 #[.slice p X.length cp,.int .u64 (b:Int)] w (ShPost w X b):=by
 generalize hP:ShPost w X b = Post
 have HP:=hide hP
 clear hP
 go_enter Try.func84,Try.ntmps84
 go_wp2_with (at_make; refine wpList_make_zero rfl _ _ rfl _ _ X.length rfl rfl rfl rfl (by omega) ?_)
 intro w1 hrow hb
 have hs0:=ShSt.start (x:=X) hb1
 go_wp2_with fail
 go_loopg [7,8] X.length (fun k l v wr=>∃ (out:List Nat) (ll:Nat),k ≤ X.length ∧ v = .int .i64 ((k:Int) - 1) ∧ l = .int .u64 (ll:Int) ∧ ShSt X b k out ll ∧ DRow .u32 85 wr w.heap.size out ∧ Below w.heap.size w wr)
 case atStart=>exact ⟨_,0,Nat.le_refl _,rfl,rfl,hs0,hrow,hb⟩
 case round=>
  obtain ⟨out,l,hk,rfl,rfl,hs,hD,hB⟩:=hrel
  clear hs0 hrow hb
  rcases gk with _ | i
  ·have hgd:=hD.dg
   have hl:=hs.lt
   have hlen:=hs.len
   have hv:=hs.val_
   rw [List.drop_zero,List.drop_zero] at hv
   have HV:Hid (val BB out = val BB X / b ∧ val BB X % b = l):=hide (by
    rw [hv]
    exact ⟨by rw [Nat.mul_add_div (by omega),Nat.div_eq_of_lt hl,Nat.add_zero],by rw [Nat.mul_add_mod,Nat.mod_eq_of_lt hl]⟩)
   have HD:=hide hs.digs
   clear hv hs
   rw [show (((0:Nat):Int) - 1) = -1 by omega]
   go_wp2_with fail
   rw [← HP.out]
   refine ⟨_,X.length,out,?_,?_,hgd,HD.out,HV.out.1,hlen,hB⟩
   ·rw [HV.out.2,hlen]; rfl
   ·exact ⟨by omega,fun h=>by cases h⟩
  ·have hi:i < X.length:=by omega
   obtain ⟨b1,o1,rfl,hc1,hl1⟩:=hX.at hi
   replace hc1:=(hB.cell (p:=⟨b1,o1 + i,none⟩) hl1).trans hc1
   have hd9:=dX.at hi
   have hio:i < out.length:=by rw [hs.len]; exact hi
   have hco:=hD.cell hio
   have hfo:=hD.frozen i
   have hl:=hs.lt
   have HN:=hide (fun (q r:Nat)=>ShSt.next (q:=q) (r:=r) hs hi)
   have HDS:=hide (fun (q:Nat)=>hD.set i q)
   have HB:=hide (fun (u:Value)=>hB.setCell (p:=⟨w.heap.size,i,none⟩) (Nat.le_refl _) u)
   generalize X[i] = d at hc1 hd9 HN
   generalize out[i] = O at hco
   rw [BB_eq] at hd9
   clear hs hD
   obtain ⟨q,hq⟩:∃ q:Nat,q = (l * 1000000000 + d) / b:=⟨_,rfl⟩
   obtain ⟨r,hr⟩:∃ r:Nat,r = (l * 1000000000 + d) % b:=⟨_,rfl⟩
   have hdm:=Nat.div_add_mod (l * 1000000000 + d) b
   have hrb:r < b:=by rw [hr]; exact Nat.mod_lt _ (by omega)
   have hq9:q < 1000000000:=by
    rw [hq]
    apply Nat.div_lt_of_lt_mul
    have:(l + 1) * 1000000000 ≤ b * 1000000000:=Nat.mul_le_mul_right _ (by omega)
    omega
   rw [← hq,← hr] at hdm
   have HF:Hid (l * 1000000000 + d = b * q + r):=hide hdm.symm
   have hq1:((l:Int) * 1000000000 + (d:Int)) / (b:Int) = (q:Int):=by rw [hq]; exact cast_div l d b
   have hr1:((l:Int) * 1000000000 + (d:Int)) % (b:Int) = (r:Int):=by rw [hr]; exact cast_mod l d b
   clear hq hr hdm
   have hbb1:(1:Int) ≤ (b:Int):=by omega
   rw [show (((i + 1:Nat):Int) - 1) = (i:Int) by omega]
   go_wp2_with fail
   have hN:=HN.out q r HF.out hrb hq9
   go_roundg i
   case measure=>omega
   case rel=>exact ⟨_,r,by omega,rfl,by rw [hr1],hN,HDS.out q,HB.out _⟩

structure ScSt (x:List Nat) (t n j:Nat) (out:List Nat) (c:Nat):Prop where
 len:out.length = n
 digs:Digs BB out
 car:c < BB
 val_:val BB out + BB ^ j * c = val BB (x.take j) * t
 zero:∀ k,j ≤ k → k < n → out[k]? = some 0
theorem ScSt.start (x:List Nat) (t n:Nat):ScSt x t n 0 (List.replicate n 0) 0:=by
 refine ⟨by simp,fun d hd=>?_,by rw [BB_eq]; omega,by simp [val,val_zeros],fun k _ hk=>by simp [hk]⟩
 have:=List.eq_of_mem_replicate hd
 rw [this,BB_eq]; omega
theorem ScSt.next {x:List Nat} {t n j c d q r:Nat} {out:List Nat} (h:ScSt x t n j out c) (hj:j < n) (hd:val BB (x.take (j + 1)) = val BB (x.take j) + BB ^ j * d) (hq:c + d * t = BB * q + r) (hr:r < BB) (hq1:q < BB):ScSt x t n (j + 1) (out.set j r) q:=by
 have hjo:j < out.length:=by rw [h.len]; exact hj
 refine ⟨by simp [h.len],h.digs.set hr,hq1,?_,fun k hk hkn=>by rw [List.getElem?_set_ne (by omega)]; exact h.zero k (by omega) hkn⟩
 have hz:out[j] = 0:=by
  have h1:=h.zero j (Nat.le_refl _) hj
  rw [List.getElem?_eq_getElem hjo] at h1
  exact Option.some.inj h1
 have hs:=val_set (b:=BB) out j r hjo
 rw [hz] at hs
 have hv:=h.val_
 have e1:BB ^ j * (c + d * t) = BB ^ (j + 1) * q + BB ^ j * r:=by rw [hq,Nat.mul_add,Nat.pow_succ,Nat.mul_assoc]
 rw [hd,Nat.add_mul,Nat.mul_assoc]
 rw [Nat.mul_add] at e1
 omega

def ScPost (w:World) (x:List Nat) (t n:Nat) (e:Ending) (w':World):Prop:=
 ∃ (out:List Nat) (c:Nat),e = .returned (.slice (some ⟨w.heap.size,0,none⟩) n n) ∧ out.length = n ∧ DRow .u32 85 w' w.heap.size out ∧ Digs BB out ∧ val BB out + BB ^ n * c = val BB (x.take n) * t ∧ Below w.heap.size w w'

theorem cast_mul (d t:Nat):((d:Int) * (t:Int)) = ((d * t:Nat):Int):=by simp

set_option maxRecDepth 100000 in
set_option maxHeartbeats 1600000 in
theorem scaled_any (p:Option Addr) (cp:Nat) (X:List Nat) (t n:Nat) (w:World) (hX:Dg .u32 w p X) (dX:Digs BB X) (ht:t < 1000000000) (hn:n ≤ 2199023255552) :
  Calls Try.prog 86 #[.slice p X.length cp,.int .u64 (t:Int),.int .i64 (n:Int)] w (ScPost w X t n):=by
 generalize hP:ScPost w X t n = Post
 have HP:=hide hP
 clear hP
 go_enter Try.func86,Try.ntmps86
 go_wp2_with (at_make; refine wpList_make_zero rfl _ _ rfl _ _ n rfl rfl rfl rfl (by omega) ?_)
 intro w1 hrow hb
 have hs0:=ScSt.start X t n
 go_wp2_with fail
 go_loopg [8,14] n (fun k c v wr=>∃ (j:Nat) (out:List Nat) (cc:Nat),j + k = n ∧ v = .int .i64 (j:Int) ∧ c = .int .u64 (cc:Int) ∧ ScSt X t n j out cc ∧ DRow .u32 85 wr w.heap.size out ∧ Below w.heap.size w wr)
 case atStart=>exact ⟨0,_,0,by omega,rfl,rfl,hs0,hrow,hb⟩
 case round=>
  obtain ⟨j,out,cc,hjr,rfl,rfl,hs,hD,hB⟩:=hrel
  have HJ:=hide hjr
  clear hs0 hrow hb hjr
  rcases Nat.lt_or_ge j n with hj | hj
  ·have hjo:j < out.length:=by rw [hs.len]; exact hj
   have hco:=hD.cell hjo
   have hfo:=hD.frozen j
   have hcar:=hs.car
   rw [BB_eq] at hcar
   have HDS:=hide (fun (q:Nat)=>hD.set j q)
   have HB:=hide (fun (u:Value)=>hB.setCell (p:=⟨w.heap.size,j,none⟩) (Nat.le_refl _) u)
   generalize out[j] = O at hco
   clear hD
   rcases Nat.lt_or_ge j X.length with hk | hk
   ·obtain ⟨b1,o1,rfl,hc1,hl1⟩:=hX.at hk
    replace hc1:=(hB.cell (p:=⟨b1,o1 + j,none⟩) hl1).trans hc1
    have hd9:=dX.at hk
    rw [BB_eq] at hd9
    have HN:=hide (fun (q r:Nat)=>ScSt.next (q:=q) (r:=r) hs hj (val_take_succ hk))
    generalize X[j] = d at hc1 hd9 HN
    clear hs
    have hdt2:d * t ≤ 999999999 * 999999999:=Nat.mul_le_mul (by omega) (by omega)
    have hdt0:=cast_mul d t
    generalize d * t = D at hdt2 hdt0 HN
    obtain ⟨r,hr⟩:∃ r:Nat,r = (cc + D) % 1000000000:=⟨_,rfl⟩
    obtain ⟨q,hq⟩:∃ q:Nat,q = (cc + D) / 1000000000:=⟨_,rfl⟩
    have hr1:((cc:Int) + (D:Int)) % 1000000000 = (r:Int):=by omega
    have hq1:((cc:Int) + (D:Int)) / 1000000000 = (q:Int):=by omega
    have HF:Hid (cc + D = BB * q + r ∧ r < BB ∧ q < BB):=hide (by rw [BB_eq]; omega)
    have hr9:r < 1000000000:=by omega
    clear hr hq
    go_wp2_with fail
    have hjr:=HJ.out
    have hN:=HN.out q r HF.out.1 HF.out.2.1 HF.out.2.2
    go_roundg (gk - 1)
    case measure=>omega
    case rel=>exact ⟨j + 1,_,q,by omega,by go_num,by first | rfl | rw [hq1],hN,HDS.out r,HB.out _⟩
   ·have HN:=hide (fun (q r:Nat)=>ScSt.next (q:=q) (r:=r) (d:=0) hs hj (by rw [val_take_ge hk]; simp))
    clear hs
    obtain ⟨r,hr⟩:∃ r:Nat,r = cc % 1000000000:=⟨_,rfl⟩
    obtain ⟨q,hq⟩:∃ q:Nat,q = cc / 1000000000:=⟨_,rfl⟩
    have hr1:(cc:Int) % 1000000000 = (r:Int):=by omega
    have hq1:(cc:Int) / 1000000000 = (q:Int):=by omega
    have HF:Hid (cc + 0 * t = BB * q + r ∧ r < BB ∧ q < BB):=hide (by rw [BB_eq]; omega)
    have hr9:r < 1000000000:=by omega
    clear hr hq
    go_wp2_with fail
    have hjr:=HJ.out
    have hN:=HN.out q r HF.out.1 HF.out.2.1 HF.out.2.2
    go_roundg (gk - 1)
    case measure=>omega
    case rel=>exact ⟨j + 1,_,q,by omega,by go_num,by first | rfl | rw [hq1],hN,HDS.out r,HB.out _⟩
  ·obtain rfl:j = n:=by have:=HJ.out; omega
   go_wp2_with fail
   rw [← HP.out]
   exact ⟨out,cc,rfl,hs.len,hD,hs.digs,hs.val_,hB⟩
end Go.Proofs.Ytphjffbldhhdiaa
