/- A law for drawn regions in two parts: a condition holds until the first part has come up. -/
import Derived.Test.YtphjffbldhhdiaaSxOwn
import Derived.Deep.RegionHeld3
namespace Go.Proofs.Ytphjffbldhhdiaa
open Go.RowKit
theorem keepZ3 {w c w1:World} {g0 o0 g1 o1 g2 o2:Nat} {v0 v1 v2:Value} (h:c.cell? ⟨g0,o0,none⟩ = some v0 ∧ c.cell? ⟨g1,o1,none⟩ = some v1 ∧ c.cell? ⟨g2,o2,none⟩ = some v2 ∧ Below w.heap.size w c) (hb:Below c.heap.size c w1):w1.cell? ⟨g0,o0,none⟩ = some v0 ∧ w1.cell? ⟨g1,o1,none⟩ = some v1 ∧ w1.cell? ⟨g2,o2,none⟩ = some v2 ∧ Below w.heap.size w w1:=by
 obtain ⟨h0,h1,h2,hk⟩:=h
 exact ⟨cellK hb h0,cellK hb h1,cellK hb h2,hk.trans (hb.mono hk.size)⟩
theorem keepZ5 {w c w1:World} {g0 o0 g1 o1 g2 o2 g3 o3 g4 o4:Nat} {v0 v1 v2 v3 v4:Value} (h:c.cell? ⟨g0,o0,none⟩ = some v0 ∧ c.cell? ⟨g1,o1,none⟩ = some v1 ∧ c.cell? ⟨g2,o2,none⟩ = some v2 ∧ c.cell? ⟨g3,o3,none⟩ = some v3 ∧ c.cell? ⟨g4,o4,none⟩ = some v4 ∧ Below w.heap.size w c) (hb:Below c.heap.size c w1):w1.cell? ⟨g0,o0,none⟩ = some v0 ∧ w1.cell? ⟨g1,o1,none⟩ = some v1 ∧ w1.cell? ⟨g2,o2,none⟩ = some v2 ∧ w1.cell? ⟨g3,o3,none⟩ = some v3 ∧ w1.cell? ⟨g4,o4,none⟩ = some v4 ∧ Below w.heap.size w w1:=by
 obtain ⟨h0,h1,h2,h3,h4,hk⟩:=h
 exact ⟨cellK hb h0,cellK hb h1,cellK hb h2,cellK hb h3,cellK hb h4,hk.trans (hb.mono hk.size)⟩
theorem keepZ9 {w c w1:World} {g0 o0 g1 o1 g2 o2 g3 o3 g4 o4 g5 o5 g6 o6 g7 o7 g8 o8:Nat} {v0 v1 v2 v3 v4 v5 v6 v7 v8:Value} (h:c.cell? ⟨g0,o0,none⟩ = some v0 ∧ c.cell? ⟨g1,o1,none⟩ = some v1 ∧ c.cell? ⟨g2,o2,none⟩ = some v2 ∧ c.cell? ⟨g3,o3,none⟩ = some v3 ∧ c.cell? ⟨g4,o4,none⟩ = some v4 ∧ c.cell? ⟨g5,o5,none⟩ = some v5 ∧ c.cell? ⟨g6,o6,none⟩ = some v6 ∧ c.cell? ⟨g7,o7,none⟩ = some v7 ∧ c.cell? ⟨g8,o8,none⟩ = some v8 ∧ Below w.heap.size w c) (hb:Below c.heap.size c w1):w1.cell? ⟨g0,o0,none⟩ = some v0 ∧ w1.cell? ⟨g1,o1,none⟩ = some v1 ∧ w1.cell? ⟨g2,o2,none⟩ = some v2 ∧ w1.cell? ⟨g3,o3,none⟩ = some v3 ∧ w1.cell? ⟨g4,o4,none⟩ = some v4 ∧ w1.cell? ⟨g5,o5,none⟩ = some v5 ∧ w1.cell? ⟨g6,o6,none⟩ = some v6 ∧ w1.cell? ⟨g7,o7,none⟩ = some v7 ∧ w1.cell? ⟨g8,o8,none⟩ = some v8 ∧ Below w.heap.size w w1:=by
 obtain ⟨h0,h1,h2,h3,h4,h5,h6,h7,h8,hk⟩:=h
 exact ⟨cellK hb h0,cellK hb h1,cellK hb h2,cellK hb h3,cellK hb h4,cellK hb h5,cellK hb h6,cellK hb h7,cellK hb h8,hk.trans (hb.mono hk.size)⟩
theorem keepZ13 {w c w1:World} {g0 o0 g1 o1 g2 o2 g3 o3 g4 o4 g5 o5 g6 o6 g7 o7 g8 o8 g9 o9 g10 o10 g11 o11 g12 o12:Nat} {v0 v1 v2 v3 v4 v5 v6 v7 v8 v9 v10 v11 v12:Value} (h:c.cell? ⟨g0,o0,none⟩ = some v0 ∧ c.cell? ⟨g1,o1,none⟩ = some v1 ∧ c.cell? ⟨g2,o2,none⟩ = some v2 ∧ c.cell? ⟨g3,o3,none⟩ = some v3 ∧ c.cell? ⟨g4,o4,none⟩ = some v4 ∧ c.cell? ⟨g5,o5,none⟩ = some v5 ∧ c.cell? ⟨g6,o6,none⟩ = some v6 ∧ c.cell? ⟨g7,o7,none⟩ = some v7 ∧ c.cell? ⟨g8,o8,none⟩ = some v8 ∧ c.cell? ⟨g9,o9,none⟩ = some v9 ∧ c.cell? ⟨g10,o10,none⟩ = some v10 ∧ c.cell? ⟨g11,o11,none⟩ = some v11 ∧ c.cell? ⟨g12,o12,none⟩ = some v12 ∧ Below w.heap.size w c) (hb:Below c.heap.size c w1):w1.cell? ⟨g0,o0,none⟩ = some v0 ∧ w1.cell? ⟨g1,o1,none⟩ = some v1 ∧ w1.cell? ⟨g2,o2,none⟩ = some v2 ∧ w1.cell? ⟨g3,o3,none⟩ = some v3 ∧ w1.cell? ⟨g4,o4,none⟩ = some v4 ∧ w1.cell? ⟨g5,o5,none⟩ = some v5 ∧ w1.cell? ⟨g6,o6,none⟩ = some v6 ∧ w1.cell? ⟨g7,o7,none⟩ = some v7 ∧ w1.cell? ⟨g8,o8,none⟩ = some v8 ∧ w1.cell? ⟨g9,o9,none⟩ = some v9 ∧ w1.cell? ⟨g10,o10,none⟩ = some v10 ∧ w1.cell? ⟨g11,o11,none⟩ = some v11 ∧ w1.cell? ⟨g12,o12,none⟩ = some v12 ∧ Below w.heap.size w w1:=by
 obtain ⟨h0,h1,h2,h3,h4,h5,h6,h7,h8,h9,h10,h11,h12,hk⟩:=h
 exact ⟨cellK hb h0,cellK hb h1,cellK hb h2,cellK hb h3,cellK hb h4,cellK hb h5,cellK hb h6,cellK hb h7,cellK hb h8,cellK hb h9,cellK hb h10,cellK hb h11,cellK hb h12,hk.trans (hb.mono hk.size)⟩
theorem keepZ15 {w c w1:World} {g0 o0 g1 o1 g2 o2 g3 o3 g4 o4 g5 o5 g6 o6 g7 o7 g8 o8 g9 o9 g10 o10 g11 o11 g12 o12 g13 o13 g14 o14:Nat} {v0 v1 v2 v3 v4 v5 v6 v7 v8 v9 v10 v11 v12 v13 v14:Value} (h:c.cell? ⟨g0,o0,none⟩ = some v0 ∧ c.cell? ⟨g1,o1,none⟩ = some v1 ∧ c.cell? ⟨g2,o2,none⟩ = some v2 ∧ c.cell? ⟨g3,o3,none⟩ = some v3 ∧ c.cell? ⟨g4,o4,none⟩ = some v4 ∧ c.cell? ⟨g5,o5,none⟩ = some v5 ∧ c.cell? ⟨g6,o6,none⟩ = some v6 ∧ c.cell? ⟨g7,o7,none⟩ = some v7 ∧ c.cell? ⟨g8,o8,none⟩ = some v8 ∧ c.cell? ⟨g9,o9,none⟩ = some v9 ∧ c.cell? ⟨g10,o10,none⟩ = some v10 ∧ c.cell? ⟨g11,o11,none⟩ = some v11 ∧ c.cell? ⟨g12,o12,none⟩ = some v12 ∧ c.cell? ⟨g13,o13,none⟩ = some v13 ∧ c.cell? ⟨g14,o14,none⟩ = some v14 ∧ Below w.heap.size w c) (hb:Below c.heap.size c w1):w1.cell? ⟨g0,o0,none⟩ = some v0 ∧ w1.cell? ⟨g1,o1,none⟩ = some v1 ∧ w1.cell? ⟨g2,o2,none⟩ = some v2 ∧ w1.cell? ⟨g3,o3,none⟩ = some v3 ∧ w1.cell? ⟨g4,o4,none⟩ = some v4 ∧ w1.cell? ⟨g5,o5,none⟩ = some v5 ∧ w1.cell? ⟨g6,o6,none⟩ = some v6 ∧ w1.cell? ⟨g7,o7,none⟩ = some v7 ∧ w1.cell? ⟨g8,o8,none⟩ = some v8 ∧ w1.cell? ⟨g9,o9,none⟩ = some v9 ∧ w1.cell? ⟨g10,o10,none⟩ = some v10 ∧ w1.cell? ⟨g11,o11,none⟩ = some v11 ∧ w1.cell? ⟨g12,o12,none⟩ = some v12 ∧ w1.cell? ⟨g13,o13,none⟩ = some v13 ∧ w1.cell? ⟨g14,o14,none⟩ = some v14 ∧ Below w.heap.size w w1:=by
 obtain ⟨h0,h1,h2,h3,h4,h5,h6,h7,h8,h9,h10,h11,h12,h13,h14,hk⟩:=h
 exact ⟨cellK hb h0,cellK hb h1,cellK hb h2,cellK hb h3,cellK hb h4,cellK hb h5,cellK hb h6,cellK hb h7,cellK hb h8,cellK hb h9,cellK hb h10,cellK hb h11,cellK hb h12,cellK hb h13,cellK hb h14,hk.trans (hb.mono hk.size)⟩
theorem rows_put {w:World} {G m D:Nat} {F:Nat → Rat} {q:Rat} {n n':Bool} {a b:Option Addr} {l k i j:Nat} (h:∀ i,i < m → FAt w G (i * 4) (F i)) (hD:D < m) (hq:FracV w (.agg #[.bool n,.slice a l k,.bool n',.slice b i j]) q) :
  ∀ i',i' < m → FAt (put4 w G (D * 4) (.bool n) (.slice a l k) (.bool n') (.slice b i j)) G (i' * 4) (put F D q i'):=by
 intro i' hi
 by_cases he:i' = D
 ·subst he
  rw [put_at]
  exact FAt.put4_at hq (h i' hi)
 ·rw [put_else _ _ he]
  exact (h i' hi).put4 (h D hD) (.inr (by omega))
section
variable {P:Program} {ops:Array Oper} {Q:Exit → Act → World → Prop} {md:Region.Mode} {S:World → Prop} {F:Nat → Bool}

def fullF (F:Nat → Bool) (ops:Array Oper) (listed:Array Bool):Bool:=(List.range ops.size).all fun i=>!F i || listed.getD i true
def Till (P:Program) (md:Region.Mode) (ops:Array Oper) (Q:Exit → Act → World → Prop) (S:World → Prop) (F:Nat → Bool):Nat → Array Bool → Act → World → Prop
 | 0,listed,a,w=>wpAny P md ops Q 0 listed a w
 | fuel + 1,listed,a,w=>
  if fullF F ops listed = true then wpAny P md ops Q (fuel + 1) listed a w
  else (Region.ready md ops listed = [] → Q .normal a w) ∧ ∀ i ∈ Region.ready md ops listed,wpOp P ops Q i (fun a' w'=>S w' ∧ Till P md ops Q S F fuel (listed.setIfInBounds i true) a' w') a w
theorem wpAny_of_till:∀ (fuel:Nat) (listed:Array Bool) (a:Act) (w:World),Till P md ops Q S F fuel listed a w → wpAny P md ops Q fuel listed a w
 | 0,_,_,_,h=>h
 | fuel + 1,listed,a,w,h=>by
  unfold Till at h
  split at h
  ·exact h
  ·exact ⟨h.1,fun i hi=>wpOp_mono (fun a' w' h'=>wpAny_of_till fuel _ a' w' h'.2) (h.2 i hi)⟩
theorem till_of_any {fuel:Nat} {listed:Array Bool} {a:Act} {w:World} (hf:fullF F ops listed = true) (h:wpAny P md ops Q fuel listed a w):Till P md ops Q S F fuel listed a w:=by
 cases fuel with
 | zero=>exact h
 | succ n=>unfold Till; rw [if_pos hf]; exact h

theorem full_not {listed:Array Bool} {i:Nat} (hi:i < ops.size) (hF:F i = true) (h:listed.getD i true = false):¬ fullF F ops listed = true:=by
 intro hf
 unfold fullF at hf
 have:=List.all_eq_true.1 hf i (List.mem_range.2 hi)
 rw [hF,h] at this
 cases this

def waitsF (md:Region.Mode) (F:Nat → Bool) (ops:Array Oper):Bool:=
 (List.range ops.size).all fun j=>F j || (List.range ops.size).all fun i=>!F i || ((ops[j]?).map fun o=>o.after.any fun e=>Region.binds md e && e.on == i).getD false
theorem waits_spec (h:waitsF md F ops = true) {listed:Array Bool} {i j:Nat} (hj:j ∈ Region.ready md ops listed) (hi:i < ops.size) (hF:F i = true) (hl:listed.getD i true = false):F j = true:=by
 obtain ⟨hjun,oj,hoj,hall⟩:=mem_ready.1 hj
 have hjs:j < ops.size:=(Array.getElem?_eq_some_iff.1 hoj).1
 have h1:=List.all_eq_true.1 h j (List.mem_range.2 hjs)
 rw [Bool.or_eq_true] at h1
 rcases h1 with h1 | h1
 ·exact h1
 ·have h2:=List.all_eq_true.1 h1 i (List.mem_range.2 hi)
  rw [hF,hoj] at h2
  simp only [Bool.not_true,Bool.false_or,Option.map_some,Option.getD_some] at h2
  rw [Array.any_eq_true'] at h2
  obtain ⟨e,he,h3⟩:=h2
  rw [Bool.and_eq_true] at h3
  have h4:=hall e he h3.1
  rw [eq_of_beq h3.2] at h4
  rcases Nat.lt_or_ge i listed.size with h' | h'
  ·simp [h'] at hl h4; rw [hl] at h4; cases h4
  ·simp [Array.getElem?_eq_none h'] at h4

theorem Till_first {i:Nat} {oi:Oper} {v:Value} (hi:ops[i]? = some oi) (hsel:∀ (j:Nat) (o:Oper) cs b,ops[j]? = some o → o.op ≠ .select cs b)
  (hQ:∀ c a w,Q (.panic c) (a.put oi.dst v) w → Q (.panic c) a w) (hFi:F i = true) (hw:waitsF md F ops = true) :
  ∀ (fuel:Nat) (listed:Array Bool) (a:Act) (w:World),
   (∀ j oj,ops[j]? = some oj → j ≠ i → listed.getD j true = false → (∀ e ∈ oj.after,Region.binds md e = true → e.on ≠ i) → oi.apart ops oj = true) →
   i ∈ Region.ready md ops listed → YieldsIf P ops S oi v a → S w →
   Till P md ops Q S F fuel (listed.setIfInBounds i true) (a.put oi.dst v) w → Till P md ops Q S F (fuel + 1) listed a w:=by
 have his:i < ops.size:=(Array.getElem?_eq_some_iff.1 hi).1
 intro fuel
 induction fuel with
 | zero=>
  intro listed a w _ hr hy hS H
  unfold Till
  rw [if_neg (full_not his hFi (mem_ready.1 hr).1)]
  refine ⟨fun h=>(by rw [h] at hr; cases hr),fun j hj=>?_⟩
  by_cases hji:j = i
  ·subst hji; exact hy.wpOp hi hS ⟨hS,H⟩
  ·have:=ready_mono hj hji
   rw [H.1] at this
   cases this
 | succ fuel ih=>
  intro listed a w hfree hr hy hS H
  unfold Till
  rw [if_neg (full_not his hFi (mem_ready.1 hr).1)]
  refine ⟨fun h=>(by rw [h] at hr; cases hr),fun j hj=>?_⟩
  by_cases hji:j = i
  ·subst hji; exact hy.wpOp hi hS ⟨hS,H⟩
  ·have hFj:=waits_spec hw hj his hFi (mem_ready.1 hr).1
   have hjr:=ready_mono hj hji
   have hjs:j < ops.size:=by
    obtain ⟨_,oj,hoj,_⟩:=mem_ready.1 hj
    exact (Array.getElem?_eq_some_iff.1 hoj).1
   unfold Till at H
   rw [if_neg (full_not hjs hFj (mem_ready.1 hjr).1)] at H
   have h1:=H.2 j hjr
   obtain ⟨hjun,oj,hoj,hall⟩:=mem_ready.1 hj
   have hnot:∀ e ∈ oj.after,Region.binds md e = true → e.on ≠ i:=fun e he hb heq=>by
    have h1:=hall e he hb
    have h0:=(mem_ready.1 hr).1
    rw [heq] at h1
    rcases Nat.lt_or_ge i listed.size with h' | h'
    ·simp [h'] at h0 h1; rw [h0] at h1; cases h1
    ·simp [Array.getElem?_eq_none h'] at h1
   have h2:=wpOp_putIf hoj (hfree j oj hoj hji hjun hnot) (fun cs b=>hsel i oi cs b hi) (fun cs b=>hsel j oj cs b hoj) hQ hy h1
   have hfree':∀ k ok,ops[k]? = some ok → k ≠ i → (listed.setIfInBounds j true).getD k true = false →
     (∀ e ∈ ok.after,Region.binds md e = true → e.on ≠ i) → oi.apart ops ok = true:=fun k ok hk hki hun hno=>by
    refine hfree k ok hk hki ?_ hno
    by_cases hjk:j = k
    ·subst hjk; exact hjun
    ·rw [getD_set_ne true hjk] at hun; exact hun
   refine wpOp_mono (fun a' w' h3=>⟨h3.2.1,ih (listed.setIfInBounds j true) a' w' hfree' (ready_mono hr (Ne.symm hji)) h3.1 h3.2.1 ?_⟩) h2
   rw [Array.setIfInBounds_comm _ _ hji]
   exact h3.2.2
theorem Till_take {i:Nat} {oi:Oper} {v:Value} {fuel:Nat} {listed:Array Bool} {a:Act} {w:World} (hi:ops[i]? = some oi)
  (hs:Region.noSelect ops = true) (hf:Region.free md ops listed i = true) (hr:(Region.ready md ops listed).contains i = true)
  (hQ:∀ c a w,Q (.panic c) (a.put oi.dst v) w → Q (.panic c) a w) (hFi:F i = true) (hw:waitsF md F ops = true) (hy:YieldsIf P ops S oi v a) (hS:S w)
  (h:Till P md ops Q S F fuel (listed.setIfInBounds i true) (a.put oi.dst v) w):Till P md ops Q S F (fuel + 1) listed a w:=
 Till_first hi (Region.noSelect_spec hs) hQ hFi hw fuel listed a w (Region.free_spec hi hf) (by simpa using hr) hy hS h
def AllReadyT (P:Program) (md:Region.Mode) (ops:Array Oper) (Q:Exit → Act → World → Prop) (S:World → Prop) (F:Nat → Bool) (fuel:Nat) (listed:Array Bool) (a:Act) (w:World) (rs:List Nat):Prop:=
 ∀ i ∈ rs,wpOp P ops Q i (fun a' w'=>S w' ∧ Till P md ops Q S F fuel (listed.setIfInBounds i true) a' w') a w
theorem AllReadyT.nil {fuel:Nat} {listed:Array Bool} {a:Act} {w:World}:AllReadyT P md ops Q S F fuel listed a w []:=fun _ h=>by cases h
theorem AllReadyT.cons {fuel:Nat} {listed:Array Bool} {a:Act} {w:World} {i:Nat} {o:Oper} {rs:List Nat} (ho:ops[i]? = some o)
  (h:∀ K':Act → World → Prop,Shut (∀ a w,S w → (S w → Till P md ops Q S F fuel (listed.setIfInBounds i true) a w) → K' a w) → if Region.wanted o (yielded ops a.tmps) = true then Oper.wp P o a w K' Q else K' (a.put o.dst undef) w)
  (hs:AllReadyT P md ops Q S F fuel listed a w rs):AllReadyT P md ops Q S F fuel listed a w (i :: rs):=fun j hj=>by
 rcases List.mem_cons.1 hj with rfl | hj
 ·exact wpOp_step ho (fun K' hK=>h K' (fun a w hS hW=>hK a w ⟨hS,hW hS⟩))
 ·exact hs j hj
theorem Till_ready {rs:List Nat} {fuel:Nat} {listed:Array Bool} {a:Act} {w:World} (hn:fullF F ops listed = false) (hr:Region.ready md ops listed = rs) (hne:rs ≠ [])
  (h:AllReadyT P md ops Q S F fuel listed a w rs):Till P md ops Q S F (fuel + 1) listed a w:=by
 unfold Till
 rw [if_neg (by rw [hn]; simp)]
 exact ⟨fun h0=>absurd (hr ▸ h0) hne,hr ▸ h⟩
theorem Till_turn {fuel:Nat} {listed:Array Bool} {a:Act} {w:World} (hf:fullF F ops listed = true) (h:wpAnyH P md ops Q (fun _=>True) fuel listed a w):Till P md ops Q S F fuel listed a w:=
 till_of_any hf (wpAny_of_held _ _ _ _ h)
theorem wp_region_till {id:Nat} {a:Act} {w:World} (F:Nat → Bool) (hm:P.follows .mixedOrders = true) (hS:S w.drew)
  (h:S w.drew → Till P .any ops Q S F ops.size (Array.replicate ops.size false) a w.drew):(Code.region id ops true).wp P Q a w:=
 wp_region_any hm (wpAny_of_till _ _ _ _ (h hS))
end
theorem tkT {P:Program} {md:Region.Mode} {ops:Array Oper} {Q:Exit → Act → World → Prop} {S:World → Prop} {F:Nat → Bool} (i:Nat) (oi:Oper) {v:Value} {fuel:Nat} {listed:Array Bool} {a:Act} {w:World} (hS:S w) (h:Till P md ops Q S F fuel (listed.setIfInBounds i true) (a.put oi.dst v) w)
  (hi:ops[i]? = some oi:=by rfl) (hc:(Region.noSelect ops && (Region.free md ops listed i && ((Region.ready md ops listed).contains i && (F i && waitsF md F ops)))) = true:=by kernel_rfl)
  (hQ:∀ c a w,Q (.panic c) (a.put oi.dst v) w → Q (.panic c) a w:=by exact fun _ _ _ h=>h) (hw:Region.wanted oi (yielded ops a.tmps) = true:=by rfl)
  (hy:∀ w',S w' → (execOp a.eval oi).run P w' = .ok (.value v) w':=by intro w' hSw; (try dsimp only at hSw); go_simp; try with_reducible rfl):Till P md ops Q S F (fuel + 1) listed a w:=by
 rw [Bool.and_eq_true,Bool.and_eq_true,Bool.and_eq_true,Bool.and_eq_true] at hc
 exact Till_take hi hc.1 hc.2.1 hc.2.2.1 hQ hc.2.2.2.1 hc.2.2.2.2 (.inl ⟨hw,hy⟩) hS h

theorem FracV.halves {w:World} {n m:Bool} {a b:Option Addr} {l k i j:Nat} {q:Rat} (h:FracV w (.agg #[.bool n,.slice a l k,.bool m,.slice b i j]) q):IntV w (.agg #[.bool n,.slice a l k]) q.num ∧ IntV w (.agg #[.bool m,.slice b i j]) (und q):=by
 obtain ⟨_,_,_,_,_,_,_,_,e,h1,h2⟩:=h
 simp only [Value.agg.injEq,Array.mk.injEq,List.cons.injEq,Value.bool.injEq,Value.slice.injEq,and_true] at e
 obtain ⟨rfl,⟨rfl,rfl,rfl⟩,rfl,rfl,rfl,rfl⟩:=e
 exact ⟨h1,h2⟩
theorem Qz.halves {q:Rat} (h:Qz q):Sm q.num ∧ Sm (und q):=⟨Nat.le_trans h.1 (by decide),Nat.le_trans (len_und h) (by decide)⟩
theorem IntV.form {w:World} {v:Value} {z:Int} (h:IntV w v z):∃ n a l k,v = .agg #[.bool n,.slice a l k]:=by
 obtain ⟨a,c,e,-⟩:=h
 exact ⟨_,_,_,_,e⟩

def RowPost (w:World) (n:Nat) (f:Nat → Rat) (e:Ending) (w':World):Prop:=
 Below w.heap.size w w' ∧ ∃ g,w.heap.size ≤ g ∧ e = .returned (.slice (some ⟨g,0,none⟩) n n) ∧ ∀ i,i < n → FAt w' g (i * 4) (f i)

set_option maxRecDepth 100000 in
set_option maxHeartbeats 3200000 in
theorem own_any {n cap:Nat} {f:Nat → Rat} {a:Option Addr} {g:Nat} (w:World) (ha:0 < n → a = some ⟨g,0,none⟩) (hf:∀ i,i < n → FAt w g (i * 4) (f i)) (hn:n ≤ 1000) (hz:∀ i,i < n → Qz (f i)) :
  Calls Try.prog 55 #[.slice a n cap] w (RowPost w n f):=by
 generalize hP:RowPost w n f = Post
 have HP:=hide hP
 clear hP
 go_enter Try.func55,Try.ntmps55
 go_wp2_with (at_make; refine wpList_make_frac rfl _ _ rfl _ _ n rfl rfl rfl rfl (by omega) ?_)
 intro W hG0 hfr sb
 have hf1:∀ i,i < n → FAt W g (i * 4) (f i):=fun i hi=>(hf i hi).below sb (Nat.le_refl _)
 generalize hGG:w.heap.size = G at *
 replace hGG:=hide hGG
 go_wp2_with fail
 go_loopg [12] n (fun k v12 wr=>∃ j:Nat,j + k = n ∧ v12 = .int .i64 (j:Int) ∧ Below G w wr ∧ Hid (∀ i,i < n → FAt wr G (i * 4) (if i < j then f i else 0)) ∧ (∀ i,wr.frozen? ⟨G,i,none⟩ = false))
 case atStart=>exact ⟨0,by omega,rfl,sb,hide (fun i hi=>by rw [if_neg (Nat.not_lt_zero _)]; exact hG0 i hi),hfr⟩
 case round=>
  obtain ⟨j,hjk,rfl,hB,HF,hfr⟩:=hrel
  rcases Nat.eq_zero_or_pos gk with h0 | h0
  ·subst h0
   obtain rfl:j = n:=by omega
   go_wp2_with fail
   rw [← HP.out]
   exact ⟨by rw [hGG.out]; exact hB,G,Nat.le_of_eq hGG.out,rfl,fun i hi=>by have:=HF.out i hi; rwa [if_pos hi] at this⟩
  ·have hj:j < n:=by omega
   obtain rfl:=ha (by omega)
   obtain ⟨xn,xa,xl,xk,xm,xb,xi,xj,x0,x1,x2,x3,hx⟩:=(hf j hj).below hB (Nat.le_of_eq hGG.out)
   obtain ⟨hxa,hxb⟩:=hx.halves
   obtain ⟨sxa,sxb⟩:=(hz j hj).halves
   obtain ⟨W2,hW2⟩:∃ W2,wr.alloc (.cells #[.bool xn,.slice xa xl xk,.bool xm,.slice xb xi xj] 71) = W2:=⟨_,rfl⟩
   have bx:Blk W2 wr.heap.size 71 #[.bool xn,.slice xa xl xk,.bool xm,.slice xb xi xj]:=by rw [← hW2]; exact Blk.new wr _ _
   have sb2:Below wr.heap.size wr W2:=by rw [← hW2]; exact (Below.refl wr.heap.size wr).alloc (Nat.le_refl _) _
   obtain ⟨b0,b1,b2,b3,-⟩:=bx.c4
   have ya:=hxa.below sb2 (Nat.le_refl _)
   have yb:=hxb.below sb2 (Nat.le_refl _)
   have HW2:=hide hW2
   clear hW2 bx hxa hxb hx
   have ej:(j:Int) < (n:Int):=by omega
   go_upto_region 6 with (fail)
   rw [HW2.out]
   clear HW2 x0 x1 x2 x3
   refine wp_region_till (S:=fun w'=>w'.cell? ⟨wr.heap.size,0,none⟩ = some (.bool xn) ∧ w'.cell? ⟨wr.heap.size,1,none⟩ = some (.slice xa xl xk) ∧ w'.cell? ⟨wr.heap.size,2,none⟩ = some (.bool xm) ∧ w'.cell? ⟨wr.heap.size,3,none⟩ = some (.slice xb xi xj) ∧ Below W2.heap.size W2 w') (fun i=>decide (i < 11)) (by kernel_rfl) (⟨b0,b1,b2,b3,(Below.refl _ _).drew⟩) (fun hS=>?_)
   refine tkT 0 ⟨some 17,.move (.tmp 4),61,"simplex.go:69",#[],none⟩ hS ?_
   try simp only [Act.put,sB,sC,sD]
   refine tkT 1 ⟨some 18,.move (.tmp 5),3,"simplex.go:69",#[],none⟩ hS ?_
   try simp only [Act.put,sB,sC,sD]
   refine tkT 2 ⟨some 19,.move (.tmp 3),57,"simplex.go:69",#[],none⟩ hS ?_
   try simp only [Act.put,sB,sC,sD]
   refine tkT 3 ⟨some 20,.fieldAddr 71 (.tmp 6) 0,0,"simplex.go:69",#[],none⟩ hS ?_
   try simp only [Act.put,sB,sC,sD]
   refine tkT 4 ⟨some 21,.load 38 (.tmp 20),38,"simplex.go:69",#[eD 3],none⟩ hS ?_
   try simp only [Act.put,sB,sC,sD]
   refine tkT 6 ⟨some 23,.move (.tmp 3),57,"simplex.go:69",#[],none⟩ hS ?_
   try simp only [Act.put,sB,sC,sD]
   refine tkT 7 ⟨some 24,.fieldAddr 71 (.tmp 6) 1,0,"simplex.go:69",#[],none⟩ hS ?_
   try simp only [Act.put,sB,sC,sD]
   refine tkT 8 ⟨some 25,.load 38 (.tmp 24),38,"simplex.go:69",#[eD 7],none⟩ hS ?_
   try simp only [Act.put,sB,sC,sD]
   refine Till_ready (rs:=[5]) (by kernel_rfl) (by kernel_rfl) (by simp) ?_
   refine AllReadyT.cons (o:=⟨some 22,.call { callee:=.value (.tmp 19),args:=#[.tmp 21],argTypes:=#[38] },38,"simplex.go:69",#[eD 2,eD 4],none⟩) rfl (fun K hK=>?_) AllReadyT.nil
   go_simp
   (with_reducible refine (own1_any _ (ya.below (hS.2.2.2.2) (Nat.le_refl _)) sxa).mono ?_)
   rintro e wA ⟨rA,rfl,hA,hb1⟩
   obtain ⟨an,aa,al,ak,rfl⟩:=hA.form
   go_wp2_with fail
   refine hK.out _ _ (keepZ4 hS hb1) (fun hS=>?_)
   clear hK K hb1
   try simp only [Act.put,sB,sC,sD]
   refine Till_ready (rs:=[9]) (by kernel_rfl) (by kernel_rfl) (by simp) ?_
   refine AllReadyT.cons (o:=⟨some 26,.call { callee:=.value (.tmp 23),args:=#[.tmp 25],argTypes:=#[38] },38,"simplex.go:69",#[eD 6,eD 8,eC 5],none⟩) rfl (fun K hK=>?_) AllReadyT.nil
   go_simp
   (with_reducible refine (own1_any _ (yb.below (hS.2.2.2.2) (Nat.le_refl _)) sxb).mono ?_)
   rintro e wC ⟨rC,rfl,hC,hb1⟩
   obtain ⟨cn,ca,cl,ck,rfl⟩:=hC.form
   replace hA:=hA.below hb1 (Nat.le_refl _)
   go_wp2_with fail
   refine hK.out _ _ (keepZ4 hS hb1) (fun hS=>?_)
   clear hK K hb1
   try simp only [Act.put,sB,sC,sD]
   refine tkT 10 ⟨some 27,.build 71 #[(0,.tmp 22),(1,.tmp 26)],71,"simplex.go:69",#[eD 5,eD 9],none⟩ hS ?_
   try simp only [Act.put,sB,sC,sD]
   refine Till_turn (by kernel_rfl) ?_
   refine tkH 11 ⟨some 28,.indexAddr 61 (.tmp 17) (.tmp 18),0,"simplex.go:69",#[eD 0,eD 1,eP 0,eP 1,eP 2,eP 3,eP 4,eP 5,eP 6,eP 7,eP 8,eP 9,eP 10],none⟩ trivial ?_
   try simp only [Act.put,sB,sC,sD]
   refine wpAnyH_ready (rs:=[12]) (by kernel_rfl) (by simp) ?_
   refine AllReadyH.cons (o:=⟨none,.store 71 (.tmp 28) (.tmp 27),0,"simplex.go:69",#[eD 11,eD 10,eC 9,eP 0,eP 1,eP 2,eP 3,eP 4,eP 5,eP 6,eP 7,eP 8,eP 9,eP 10],none⟩) rfl (fun K hK=>?_) AllReadyH.nil
   have hB4:=sb2.trans (hS.2.2.2.2.mono sb2.size)
   have HF5:Hid (∀ i,i < n → FAt wC G (i * 4) (if i < j then f i else 0)):=hide (fun i hi=>(HF.out i hi).below hB4 (Nat.le_refl _))
   have hlt:G < wr.heap.size:=(HF.out j hj).lt
   have hfr5:∀ i,wC.frozen? ⟨G,i,none⟩ = false:=fun i=>frozen_below hB4 hlt (hfr i)
   have hB5:Below G w wC:=hB.trans (hB4.mono (Nat.le_of_lt hlt))
   have hq:FracV wC (.agg #[.bool an,.slice aa al ak,.bool cn,.slice ca cl ck]) (f j):=FrV.mk hA hC
   obtain ⟨_,_,_,_,_,_,_,_,z0,z1,z2,z3,-⟩:=HF5.out j hj
   have f0:=hfr5 (j * 4)
   have f1:=hfr5 (j * 4 + 1)
   have f2:=hfr5 (j * 4 + 2)
   have f3:=hfr5 (j * 4 + 3)
   go_simp
   refine hK.out _ _ trivial (fun _=>?_)
   clear hK K z0 z1 z2 z3 f0 f1 f2 f3
   try simp only [Act.put,sB,sC,sD]
   refine wpAnyH_done (by kernel_rfl) ?_ _


   go_wp2_with fail
   go_roundg (gk - 1)
   case measure=>omega
   case rel=>
    refine ⟨j + 1,by omega,by go_num,below_put4 hB5 (Nat.le_refl G) _ _ _ _,hide (fun i hi=>?_),fun i=>(frozen_put4 _ _ _ _ _ _ _ _).trans (hfr5 i)⟩
    by_cases he:i = j
    ·subst he
     rw [if_pos (by omega)]
     exact FAt.put4_at hq (HF5.out i hi)
    ·have h5:=(HF5.out i hi).put4 (n:=an) (a:=aa) (l:=al) (k:=ak) (m:=cn) (b:=ca) (i:=cl) (j:=ck) (HF5.out j hj) (.inr (by omega))
     have e5:(if i < j + 1 then f i else 0) = (if i < j then f i else 0):=by
      by_cases h:i < j
      ·rw [if_pos h,if_pos (by omega)]
      ·rw [if_neg h,if_neg (by omega)]
     rw [e5]
     exact h5

def RFr.fr (R:RFr):Bool:=frightB R.up R.dn
def RFr.z (R:RFr):Int:=signZ R.up.neg (Go.Proofs.Ytphjffbldhhdiaa.val BB R.up.ds)
def RFr.y (R:RFr):Int:=signZ R.dn.neg (Go.Proofs.Ytphjffbldhhdiaa.val BB R.dn.ds)
def RFr.q (R:RFr):Rat:=Rat.divInt R.z (ben R.y)
def RFr.sz (R:RFr) (n:Nat):Prop:=R.up.ds.length ≤ n ∧ R.dn.ds.length ≤ n
theorem signZ_dg (z:Int):signZ (decide (z < 0)) (val BB (dg BB z.natAbs)) = z:=by
 rw [dg_val BB2]
 unfold signZ
 split
 ·rename_i h
  have:=of_decide_eq_true h
  omega
 ·rename_i h
  have:¬z < 0:=fun e=>h (decide_eq_true e)
  omega
theorem RFr.spec {R:RFr} (h:R.fr = true):R.up.neg = decide (R.q.num < 0) ∧ R.up.ds = dg BB R.q.num.natAbs ∧ R.dn.neg = decide (und R.q < 0) ∧ R.dn.ds = dg BB (und R.q).natAbs:=by
 have hf:frightB R.up R.dn = true:=h
 have hr1:rightB R.up.neg R.up.ds = true:=by
  unfold frightB at hf
  rw [Bool.and_eq_true] at hf; exact hf.1
 have hr2:rightB R.dn.neg R.dn.ds = true:=by
  unfold frightB at hf
  rw [Bool.and_eq_true,Bool.and_eq_true] at hf; exact hf.2.1
 obtain ⟨z,hz1,hz2⟩:=rightB_val hr1
 obtain ⟨y,hy1,hy2⟩:=rightB_val hr2
 obtain ⟨q,rfl,rfl⟩:=(frightB_iff z y hz1 hz2 hy1 hy2).1 hf
 have e:R.q = q:=by
  unfold RFr.q RFr.z RFr.y
  rw [hz1,hz2,hy1,hy2,signZ_dg,signZ_dg,ben_und,Rat.num_divInt_den]
 rw [e]
 exact ⟨hz1,hz2,hy1,hy2⟩
theorem RFrOk.fracV {w:World} {R:RFr} (h:RFrOk w R) (hf:R.fr = true):FracV w R.val R.q:=by
 obtain ⟨h1,h2,h3,h4⟩:=RFr.spec hf
 have hu:=h.up
 have hd:=h.dn
 refine ⟨_,_,_,_,_,_,_,_,rfl,⟨R.up.at_,R.up.cap,?_,?_,?_⟩,⟨R.dn.at_,R.dn.cap,?_,?_,?_⟩⟩
 ·rw [← h1,← h2]
 ·rw [← h2]; exact hu.fit
 ·rw [← h2]; exact hu.dig
 ·rw [← h3,← h4]
 ·rw [← h4]; exact hd.fit
 ·rw [← h4]; exact hd.dig
theorem RFr.size {R:RFr} (hf:R.fr = true) {n:Nat} (h:R.sz n) (h1:1 ≤ n):Qn n R.q:=by
 obtain ⟨_,h2,_,h4⟩:=RFr.spec hf
 refine ⟨by unfold len; rw [← h2]; exact h.1,?_⟩
 have h7:len (und R.q) ≤ n:=by unfold len; rw [← h4]; exact h.2
 unfold und at h7
 by_cases h8:R.q.den = 1
 ·rw [h8]; exact Nat.le_trans (dg_len BB2 (show ((1:Nat):Int).natAbs < BB ^ 1 by decide)) h1
 ·rwa [if_neg h8] at h7
theorem FracV.raw {w:World} {n m:Bool} {a b:Option Addr} {l k i j:Nat} {q:Rat} (h:FracV w (.agg #[.bool n,.slice a l k,.bool m,.slice b i j]) q) {N:Nat} (hq:Qn N q) (hN:N ≤ 9223372036854775807) :
  ∃ R:RFr,R.up.neg = n ∧ R.up.at_ = a ∧ R.up.ds.length = l ∧ R.up.cap = k ∧ R.dn.neg = m ∧ R.dn.at_ = b ∧ R.dn.ds.length = i ∧ R.dn.cap = j ∧ RFrOk w R ∧ R.fr = true ∧ R.q = q ∧ R.sz N:=by
 obtain ⟨⟨a1,c1,e1,f1,d1⟩,⟨a2,c2,e2,f2,d2⟩⟩:=h.halves
 simp only [Value.agg.injEq,Array.mk.injEq,List.cons.injEq,Value.bool.injEq,Value.slice.injEq,and_true] at e1 e2
 obtain ⟨rfl,rfl,rfl,rfl⟩:=e1
 obtain ⟨rfl,rfl,rfl,rfl⟩:=e2
 have l1:(dg BB q.num.natAbs).length ≤ N:=hq.1
 have l2:(dg BB (und q).natAbs).length ≤ N:=len_und hq
 refine ⟨⟨⟨decide (q.num < 0),a,k,dg BB q.num.natAbs⟩,⟨decide (und q < 0),b,j,dg BB (und q).natAbs⟩⟩,rfl,rfl,rfl,rfl,rfl,rfl,rfl,rfl,⟨⟨d1,f1,Nat.le_trans l1 hN⟩,⟨d2,f2,Nat.le_trans l2 hN⟩⟩,?_,?_,⟨l1,l2⟩⟩
 ·exact (frightB_iff q.num (und q) rfl rfl rfl rfl).2 ⟨q,rfl,rfl⟩
 ·unfold RFr.q RFr.z RFr.y
  simp only [signZ_dg,ben_und,Rat.num_divInt_den]

def RFrAt (w:World) (g o:Nat) (R:RFr):Prop:=w.cell? ⟨g,o,none⟩ = some (.bool R.up.neg) ∧ w.cell? ⟨g,o + 1,none⟩ = some (.slice R.up.at_ R.up.ds.length R.up.cap) ∧ w.cell? ⟨g,o + 2,none⟩ = some (.bool R.dn.neg) ∧ w.cell? ⟨g,o + 3,none⟩ = some (.slice R.dn.at_ R.dn.ds.length R.dn.cap) ∧ RFrOk w R
section
variable {w w':World} {g o B:Nat} {R:RFr} {q:Rat}
theorem RFrAt.below (h:RFrAt w g o R) (hb:Below B w w') (hB:w.heap.size ≤ B):RFrAt w' g o R:=
 ⟨cellB h.1 hb hB,cellB h.2.1 hb hB,cellB h.2.2.1 hb hB,cellB h.2.2.2.1 hb hB,h.2.2.2.2.below hb hB⟩
theorem RFrAt.fat (h:RFrAt w g o R) (hf:R.fr = true):FAt w g o R.q:=
 ⟨_,_,_,_,_,_,_,_,h.1,h.2.1,h.2.2.1,h.2.2.2.1,h.2.2.2.2.fracV hf⟩
theorem FAt.raw (h:FAt w g o q) {N:Nat} (hq:Qn N q) (hN:N ≤ 9223372036854775807):∃ R,RFrAt w g o R ∧ R.fr = true ∧ R.q = q ∧ R.sz N:=by
 obtain ⟨n,a,l,k,m,b,i,j,h0,h1,h2,h3,h4⟩:=h
 obtain ⟨R,rfl,rfl,rfl,rfl,rfl,rfl,rfl,rfl,h5,h6,h7,h8⟩:=h4.raw hq hN
 exact ⟨R,⟨h0,h1,h2,h3,h5⟩,h6,h7,h8⟩
end

def ListAt (w:World) (a:Option Addr) (xs:List RFr):Prop:=0 < xs.length → ∃ b o,a = some ⟨b,o,none⟩ ∧ ∀ i (h:i < xs.length),RFrAt w b (o + i * 4) xs[i]
structure RRow where
 at_:Option Addr
 cap:Nat
 xs:List RFr
 most:RFr
def RowAt (w:World) (g o:Nat) (r:RRow):Prop:=w.cell? ⟨g,o,none⟩ = some (.slice r.at_ r.xs.length r.cap) ∧ Fit r.at_ r.xs.length r.cap ∧ ListAt w r.at_ r.xs ∧ RFrAt w g (o + 1) r.most
def RowsAt (w:World) (a:Option Addr) (rs:List RRow):Prop:=0 < rs.length → ∃ b o,a = some ⟨b,o,none⟩ ∧ ∀ i (h:i < rs.length),RowAt w b (o + i * 5) rs[i]
section
variable {w w':World} {g o B:Nat} {a:Option Addr} {xs:List RFr} {r:RRow} {rs:List RRow}
theorem ListAt.below (h:ListAt w a xs) (hb:Below B w w') (hB:w.heap.size ≤ B):ListAt w' a xs:=fun h0=>by
 obtain ⟨b,o,e,h1⟩:=h h0
 exact ⟨b,o,e,fun i hi=>(h1 i hi).below hb hB⟩
theorem RowAt.below (h:RowAt w g o r) (hb:Below B w w') (hB:w.heap.size ≤ B):RowAt w' g o r:=
 ⟨cellB h.1 hb hB,h.2.1,h.2.2.1.below hb hB,h.2.2.2.below hb hB⟩
theorem RowsAt.below (h:RowsAt w a rs) (hb:Below B w w') (hB:w.heap.size ≤ B):RowsAt w' a rs:=fun h0=>by
 obtain ⟨b,o,e,h1⟩:=h h0
 exact ⟨b,o,e,fun i hi=>(h1 i hi).below hb hB⟩
end
def RRow.right (U:Int) (r:RRow):Bool:=decide ((r.xs.length:Int) = U) && (r.most.fr && r.xs.all RFr.fr)
def rightRows (U:Int) (rs:List RRow):Bool:=decide (0 ≤ U) && (decide (U ≤ 1000) && rs.all (RRow.right U))
def RRow.sz (r:RRow) (n:Nat):Prop:=r.most.sz n ∧ ∀ R ∈ r.xs,R.sz n
def timesQ (rs:List RRow) (i c:Nat):Rat:=(((rs[i]?).bind (fun r=>r.xs[c]?)).map RFr.q).getD 0
def mostQ (rs:List RRow) (i:Nat):Rat:=((rs[i]?).map (fun r=>r.most.q)).getD 0
def sysOf (n:Nat) (rs:List RRow):Sys where
 n:=n
 m:=rs.length
 A:=timesQ rs
 most:=mostQ rs

def RowsV (w:World) (b o:Nat) (S:Sys):Prop:=∀ i,i < S.m → ∃ ra rk,w.cell? ⟨b,o + i * 5,none⟩ = some (.slice ra S.n rk) ∧ Fit ra S.n rk ∧ (0 < S.n → ∃ rb ro,ra = some ⟨rb,ro,none⟩ ∧ ∀ c,c < S.n → FAt w rb (ro + c * 4) (S.A i c)) ∧ FAt w b (o + i * 5 + 1) (S.most i)
theorem RowsV.below {w w':World} {B b o:Nat} {S:Sys} (h:RowsV w b o S) (hb:Below B w w') (hB:w.heap.size ≤ B):RowsV w' b o S:=by
 intro i hi
 obtain ⟨ra,rk,h1,h2,h3,h4⟩:=h i hi
 refine ⟨ra,rk,cellB h1 hb hB,h2,fun hn=>?_,h4.below hb hB⟩
 obtain ⟨rb,ro,e,h5⟩:=h3 hn
 exact ⟨rb,ro,e,fun c hc=>(h5 c hc).below hb hB⟩
theorem right_row {n:Nat} {rs:List RRow} (hr:rightRows n rs = true) {i:Nat} (hi:i < rs.length):rs[i].xs.length = n ∧ rs[i].most.fr = true ∧ ∀ R ∈ rs[i].xs,R.fr = true:=by
 unfold rightRows at hr
 simp only [Bool.and_eq_true,List.all_eq_true] at hr
 have h:=hr.2.2 rs[i] (List.getElem_mem hi)
 unfold RRow.right at h
 simp only [Bool.and_eq_true,List.all_eq_true,decide_eq_true_eq] at h
 exact ⟨by omega,h.2.1,h.2.2⟩
theorem RowsAt.val {w:World} {a:Option Addr} {n:Nat} {rs:List RRow} (h:RowsAt w a rs) (hr:rightRows n rs = true) (h0:0 < rs.length):∃ b o,a = some ⟨b,o,none⟩ ∧ RowsV w b o (sysOf n rs):=by
 obtain ⟨b,o,e,h1⟩:=h h0
 refine ⟨b,o,e,fun i hi=>?_⟩
 have hi':i < rs.length:=hi
 obtain ⟨hl,hm,hx⟩:=right_row hr hi'
 obtain ⟨g1,g2,g3,g4⟩:=h1 i hi'
 rw [hl] at g1 g2
 refine ⟨_,_,g1,g2,fun hn=>?_,?_⟩
 ·obtain ⟨rb,ro,e2,h5⟩:=g3 (by rw [hl]; exact hn)
  refine ⟨rb,ro,e2,fun c hc=>?_⟩
  have hc':c < rs[i].xs.length:=by rw [hl]; exact hc
  have h6:=(h5 c hc').fat (hx _ (List.getElem_mem hc'))
  have e3:(sysOf n rs).A i c = rs[i].xs[c].q:=by
   show timesQ rs i c = _
   simp [timesQ,List.getElem?_eq_getElem hi',List.getElem?_eq_getElem hc']
  rw [e3]
  exact h6
 ·have e3:(sysOf n rs).most i = rs[i].most.q:=by
   show mostQ rs i = _
   simp [mostQ,List.getElem?_eq_getElem hi']
  rw [e3]
  exact g4.fat hm
theorem exists_list {A:Type} {p:Nat → A → Prop}:∀ n,(∀ i,i < n → ∃ x,p i x) → ∃ l:List A,l.length = n ∧ ∀ i (h:i < l.length),p i l[i]
 | 0,_=>⟨[],rfl,fun i h=>absurd h (Nat.not_lt_zero _)⟩
 | n + 1,h=>by
  obtain ⟨l,h1,h2⟩:=exists_list n (fun i hi=>h i (by omega))
  obtain ⟨x,hx⟩:=h n (by omega)
  refine ⟨l ++ [x],by simp [h1],fun i hi=>?_⟩
  rcases Nat.lt_or_ge i n with h3 | h3
  ·rw [List.getElem_append_left (by omega)]; exact h2 i (by omega)
  ·obtain rfl:i = n:=by simp at hi; omega
   rw [List.getElem_append_right (by omega)]
   simpa [h1] using hx
theorem RowsV.raw2 {w:World} {b o:Nat} {S:Sys} (h:RowsV w b o S) {N:Nat} (hN:N ≤ 9223372036854775807) (hA:∀ i c,i < S.m → c < S.n → Qn N (S.A i c)) (hM:∀ i,i < S.m → Qn N (S.most i)) (hn:S.n ≤ 1000) :
  ∃ rs,RowsAt w (some ⟨b,o,none⟩) rs ∧ rightRows S.n rs = true ∧ rs.length = S.m ∧ (∀ r ∈ rs,r.sz N) ∧ (∀ i c,i < S.m → c < S.n → timesQ rs i c = S.A i c) ∧ ∀ i,i < S.m → mostQ rs i = S.most i:=by
 have hx:∀ i,i < S.m → ∃ r:RRow,RowAt w b (o + i * 5) r ∧ r.right S.n = true ∧ r.sz N ∧ r.xs.length = S.n ∧ (∀ c (h:c < r.xs.length),c < S.n → (r.xs[c]).q = S.A i c) ∧ r.most.q = S.most i:=by
  intro i hi
  obtain ⟨ra,rk,h1,h2,h3,h4⟩:=h i hi
  obtain ⟨M,m1,m2,m3,m4⟩:=h4.raw (hM i hi) hN
  rcases Nat.eq_zero_or_pos S.n with h0 | h0
  ·refine ⟨⟨ra,rk,[],M⟩,⟨by simpa [h0] using h1,by simpa [h0] using h2,fun h=>by simp at h,m1⟩,?_,⟨m4,fun R hR=>by simp at hR⟩,by simp [h0],fun c hc=>by simp at hc,m3⟩
   unfold RRow.right
   simp [h0,m2]
  ·obtain ⟨rb,ro,rfl,h5⟩:=h3 h0
   obtain ⟨xs,x1,x2⟩:=exists_list (p:=fun c R=>RFrAt w rb (ro + c * 4) R ∧ R.fr = true ∧ R.sz N ∧ R.q = S.A i c) S.n (fun c hc=>by
    obtain ⟨R,r1,r2,r3,r4⟩:=(h5 c hc).raw (hA i c hi hc) hN
    exact ⟨R,r1,r2,r4,r3⟩)
   refine ⟨⟨some ⟨rb,ro,none⟩,rk,xs,M⟩,⟨by rw [x1]; exact h1,by rw [x1]; exact h2,fun _=>⟨rb,ro,rfl,fun c hc=>(x2 c hc).1⟩,m1⟩,?_,⟨m4,fun R hR=>?_⟩,x1,fun c hc _=>(x2 c hc).2.2.2,m3⟩
   ·unfold RRow.right
    simp only [Bool.and_eq_true,List.all_eq_true,decide_eq_true_eq,x1,true_and]
    refine ⟨m2,fun R hR=>?_⟩
    obtain ⟨c,hc,rfl⟩:=List.mem_iff_getElem.1 hR
    exact (x2 c hc).2.1
   ·obtain ⟨c,hc,rfl⟩:=List.mem_iff_getElem.1 hR
    exact (x2 c hc).2.2.1
 obtain ⟨rs,r1,r2⟩:=exists_list S.m hx
 refine ⟨rs,fun _=>⟨b,o,rfl,fun i hi=>(r2 i hi).1⟩,?_,r1,fun r hr=>?_,fun i c hi hc=>?_,fun i hi=>?_⟩
 ·unfold rightRows
  simp only [Bool.and_eq_true,List.all_eq_true,decide_eq_true_eq]
  refine ⟨by omega,by omega,fun r hr=>?_⟩
  obtain ⟨i,hi,rfl⟩:=List.mem_iff_getElem.1 hr
  exact (r2 i hi).2.1
 ·obtain ⟨i,hi,rfl⟩:=List.mem_iff_getElem.1 hr
  exact (r2 i hi).2.2.1
 ·have hi':i < rs.length:=by omega
  have h4:=(r2 i hi').2.2.2
  have hc':c < rs[i].xs.length:=by rw [h4.1]; exact hc
  have h5:=h4.2.1 c hc' hc
  simp [timesQ,List.getElem?_eq_getElem hi',List.getElem?_eq_getElem hc',h5]
 ·have hi':i < rs.length:=by omega
  have h5:=(r2 i hi').2.2.2.2.2
  simp [mostQ,List.getElem?_eq_getElem hi',h5]

set_option maxRecDepth 100000 in
set_option maxHeartbeats 1600000 in
theorem wrong_any (R:RFr) (w:World) (hR:RFrOk w R) (hs:R.sz 1000000000) {r:Bool} (hr:(!R.fr) = r) :
  Calls Try.prog 50 #[.agg #[.bool R.up.neg,.slice R.up.at_ R.up.ds.length R.up.cap,.bool R.dn.neg,.slice R.dn.at_ R.dn.ds.length R.dn.cap]] w fun e w'=>e = .returned (.bool r) ∧ Below w.heap.size w w':=by
 obtain ⟨W,hW⟩:∃ W,w.alloc (.cells #[.bool R.up.neg,.slice R.up.at_ R.up.ds.length R.up.cap,.bool R.dn.neg,.slice R.dn.at_ R.dn.ds.length R.dn.cap] 71) = W:=⟨_,rfl⟩
 have bx:Blk W w.heap.size 71 #[.bool R.up.neg,.slice R.up.at_ R.up.ds.length R.up.cap,.bool R.dn.neg,.slice R.dn.at_ R.dn.ds.length R.dn.cap]:=by rw [← hW]; exact Blk.new w _ _
 have sb:Below w.heap.size w W:=by rw [← hW]; exact (Below.refl w.heap.size w).alloc (Nat.le_refl _) _
 have hR1:=hR.below sb (Nat.le_refl _)
 have HR:=hide hr
 have HW:=hide hW
 clear hW hr
 go_enter Try.func50,Try.ntmps50
 go_upto_region 1 with (fail)
 rw [HW.out]
 clear HW
 obtain ⟨x0,x1,x2,x3,-⟩:=bx.c4
 go_wp2_with fail
 refine (FRight_any R.up R.dn W hR1.up hR1.dn hs.1 hs.2).mono ?_
 rintro e w1 ⟨rfl,hb1⟩
 have sb1:=sb.trans (hb1.mono sb.size)
 have HR2:Hid ((!frightB R.up R.dn) = r):=HR
 generalize frightB R.up R.dn = f at *
 obtain rfl:=HR2.out
 clear HR HR2 x0 x1 x2 x3
 go_wp2_with fail
 go_ret
 exact ⟨rfl,sb1⟩

set_option maxRecDepth 100000 in
set_option maxHeartbeats 3200000 in
theorem index_any (a:Option Addr) (cap:Nat) (xs:List RFr) (w:World) (hx:ListAt w a xs) (hs:∀ R ∈ xs,R.sz 1000000000) (hl:xs.length ≤ 1000) :
  Calls Try.prog 34 #[.slice a xs.length cap,.func (.func 50) #[] #[]] w fun e w'=>(∃ k:Int,e = .returned (.int .i64 k) ∧ (0 ≤ k ↔ xs.all RFr.fr = false)) ∧ Below w.heap.size w w':=by
 generalize hP:(fun (e:Ending) (w':World)=>(∃ k:Int,e = .returned (.int .i64 k) ∧ (0 ≤ k ↔ xs.all RFr.fr = false)) ∧ Below w.heap.size w w') = Post
 have HP:=hide hP
 clear hP
 have HS:=hide hs
 clear hs
 go_enter Try.func34,Try.ntmps34
 go_wp2_with fail
 go_loopg [8] xs.length (fun k v8 wr=>∃ j:Nat,j + k = xs.length ∧ v8 = .int .i64 (j:Int) ∧ Below w.heap.size w wr ∧ Hid (∀ i (h:i < xs.length),i < j → (xs[i]).fr = true))
 case atStart=>exact ⟨0,by omega,rfl,Below.refl _ _,hide (fun i _ h=>absurd h (Nat.not_lt_zero _))⟩
 case round=>
  obtain ⟨j,hjk,rfl,hB,HF⟩:=hrel
  rcases Nat.eq_zero_or_pos gk with h0 | h0
  ·subst h0
   have hj:j = xs.length:=by omega
   subst hj
   go_wp2_with fail
   rw [← HP.out]
   refine ⟨⟨-1,rfl,?_⟩,hB⟩
   have h1:xs.all RFr.fr = true:=List.all_eq_true.2 (fun x hx=>by
    obtain ⟨i,hi,rfl⟩:=List.mem_iff_getElem.1 hx
    exact HF.out i hi hi)
   rw [h1]
   constructor
   ·intro h; omega
   ·intro h; cases h
  ·have hj:j < xs.length:=by omega
   obtain ⟨b,o,rfl,hr⟩:=hx (by omega)
   obtain ⟨x0,x1,x2,x3,hok⟩:=(hr j hj).below hB (Nat.le_refl _)
   have hsz:=HS.out xs[j] (List.getElem_mem hj)
   have HX:Hid (xs[j] = xs[j]):=hide rfl
   generalize hR:xs[j] = R at *
   have HR:=hide hR
   have ej:(j:Int) < (xs.length:Int):=by omega
   replace hr:=hide hr
   clear hR HX
   cases hf:R.fr with
   | false=>
    have HFF:=hide hf
    have hr2:(!R.fr) = true:=by rw [hf]; rfl
    clear hf
    go_wp2_with fail
    refine (wrong_any R wr hok hsz hr2).mono ?_
    rintro e w2 ⟨rfl,hb2⟩
    clear hr2 x0 x1 x2 x3
    have hB2:=hB.trans (hb2.mono hB.size)
    go_wp2_with fail
    rw [← HP.out]
    refine ⟨⟨(j:Int),rfl,?_⟩,hB2⟩
    constructor
    ·intro _
     rw [List.all_eq_false]
     exact ⟨R,by rw [← HR.out]; exact List.getElem_mem hj,by rw [HFF.out]; decide⟩
    ·intro _; omega
   | true=>
    have HFF:=hide hf
    have hr2:(!R.fr) = false:=by rw [hf]; rfl
    clear hf
    go_wp2_with fail
    refine (wrong_any R wr hok hsz hr2).mono ?_
    rintro e w2 ⟨rfl,hb2⟩
    clear hr2 x0 x1 x2 x3
    have hB2:=hB.trans (hb2.mono hB.size)
    go_wp2_with fail
    go_roundg (gk - 1)
    case measure=>omega
    case rel=>
     exact ⟨j + 1,by omega,by go_num,hB2,hide (fun i h hi=>by
      rcases Nat.lt_or_ge i j with h1 | h1
      ·exact HF.out i h h1
      ·have h2:i = j:=by omega
       subst h2
       rw [HR.out]; exact HFF.out)⟩

set_option maxRecDepth 100000 in
set_option maxHeartbeats 1600000 in
theorem contains_any (a:Option Addr) (cap:Nat) (xs:List RFr) (w:World) (hx:ListAt w a xs) (hs:∀ R ∈ xs,R.sz 1000000000) (hl:xs.length ≤ 1000) {r:Bool} (hr:(!xs.all RFr.fr) = r) :
  Calls Try.prog 52 #[.slice a xs.length cap,.func (.func 50) #[] #[]] w fun e w'=>e = .returned (.bool r) ∧ Below w.heap.size w w':=by
 have HR:=hide hr
 have HS:=hide hs
 clear hr hs
 go_enter Try.func52,Try.ntmps52
 go_wp2_with fail
 refine (index_any a cap xs w hx HS.out hl).mono ?_
 rintro e w1 ⟨⟨k,rfl,hk⟩,hb1⟩
 have hd:decide (0 ≤ k) = r:=by
  rw [← HR.out]
  cases h:xs.all RFr.fr with
  | false=>exact decide_eq_true (hk.2 h)
  | true=>exact decide_eq_false (fun e=>by have:=hk.1 e; rw [h] at this; cases this)
 clear hk HR
 cases r with
 | false=>
  have e1:=of_decide_eq_false hd
  go_wp2_with fail
  go_ret
  exact ⟨rfl,hb1⟩
 | true=>
  have e1:=of_decide_eq_true hd
  go_wp2_with fail
  go_ret
  exact ⟨rfl,hb1⟩
end Go.Proofs.Ytphjffbldhhdiaa
