/- Trees of tokens: what is read, in plain words; trees in memory; the lists that are open; a law for drawn regions in two parts. -/
import Derived.Test.YtajlibegalbbmaaDoorProg
import Derived.Test.YtajlibegalbbmaaDoorMem
import Derived.Maps.AppendAt
import Derived.KernelRfl
import Derived.Deep.RegionHeld3
namespace Go.Proofs.YtajlibegalbbmaaDoor
section

/-- A token: its kind, text, place. -/
abbrev Tk := Int × List UInt8 × Int
/-- A tree. -/
inductive Tr where
  | mk (l : Bool) (tk : Tk) (kids : List Tr) : Tr
/-- A list that is not closed yet. -/
structure Fr where
  l : Bool
  tk : Tk
  kids : List Tr
def Fr.add (f : Fr) (t : Tr) : Fr := ⟨f.l, f.tk, f.kids ++ [t]⟩
def Fr.tree (f : Fr) : Tr := .mk f.l f.tk f.kids
/-- One token is read; b: the open lists but the innermost one, f. -/
def stepT (deep : Int) (b : List Fr) (f : Fr) (tk : Tk) : Except (Int × Int) (List Fr × Fr) :=
  if tk.1 = 1 then
    if deep ≤ (b.length : Int) then .error (4, tk.2.2) else .ok (b ++ [f], ⟨true, tk, []⟩)
  else if tk.1 = 2 then
    match b.getLast? with
    | none => .error (11, tk.2.2)
    | some g => .ok (b.dropLast, g.add f.tree)
  else .ok (b, f.add (.mk false tk []))
/-- All tokens are read. -/
def runT (deep : Int) : List Fr → Fr → List Tk → Except (Int × Int) (List Tr)
  | b, f, [] => if b.length = 0 then .ok f.kids else .error (11, f.tk.2.2)
  | b, f, tk :: r => match stepT deep b f tk with
    | .error e => .error e
    | .ok (b', f') => runT deep b' f' r
/-- The trees of tokens. -/
def treesT (deep : Int) (l : List Tk) : Except (Int × Int) (List Tr) := runT (max deep 0) [] ⟨false, (0, [], 0), []⟩ l

/-- Two stacks that differ at most in what the outermost list is. -/
def Alike (b : List Fr) (f : Fr) (b' : List Fr) (f' : Fr) : Prop :=
  (b = [] ∧ b' = [] ∧ f.kids = f'.kids) ∨ ∃ g g' r, b = g :: r ∧ b' = g' :: r ∧ g.kids = g'.kids ∧ f = f'
theorem step_alike {deep deep' : Int} (hd : max deep 0 = max deep' 0) {b b' : List Fr} {f f' : Fr} (h : Alike b f b' f') (tk : Tk) :
    (∃ e, stepT deep b f tk = .error e ∧ stepT deep' b' f' tk = .error e) ∨ ∃ c g c' g', stepT deep b f tk = .ok (c, g) ∧ stepT deep' b' f' tk = .ok (c', g') ∧ Alike c g c' g' := by
  have hlen : b.length = b'.length := by
    rcases h with ⟨rfl, rfl, -⟩ | ⟨g, g', r, rfl, rfl, -, -⟩ <;> simp
  unfold stepT
  by_cases h1 : tk.1 = 1
  · simp only [if_pos h1, ← hlen]
    by_cases h2 : deep ≤ (b.length : Int)
    · rw [if_pos h2, if_pos (by omega)]; exact .inl ⟨_, rfl, rfl⟩
    · rw [if_neg h2, if_neg (by omega)]
      refine .inr ⟨_, _, _, _, rfl, rfl, ?_⟩
      rcases h with ⟨rfl, rfl, hk⟩ | ⟨g, g', r, rfl, rfl, hk, rfl⟩
      · exact .inr ⟨f, f', [], rfl, rfl, hk, rfl⟩
      · exact .inr ⟨g, g', r ++ [f], rfl, rfl, hk, rfl⟩
  · simp only [if_neg h1]
    by_cases h2 : tk.1 = 2
    · simp only [if_pos h2]
      rcases h with ⟨rfl, rfl, hk⟩ | ⟨g, g', r, rfl, rfl, hk, rfl⟩
      · exact .inl ⟨_, rfl, rfl⟩
      · right
        cases r with
        | nil => exact ⟨[], _, [], _, rfl, rfl, .inl ⟨rfl, rfl, by simp [Fr.add, hk]⟩⟩
        | cons x r =>
          have e : ∀ y : Fr, (y :: x :: r).getLast? = some ((x :: r).getLast (by simp)) := fun y => by simp [List.getLast?_eq_some_getLast, List.getLast_cons]
          refine ⟨_, _, _, _, by rw [e], by rw [e], .inr ⟨g, g', (x :: r).dropLast, ?_, ?_, hk, rfl⟩⟩ <;> simp
    · simp only [if_neg h2]
      refine .inr ⟨_, _, _, _, rfl, rfl, ?_⟩
      rcases h with ⟨rfl, rfl, hk⟩ | ⟨g, g', r, rfl, rfl, hk, rfl⟩
      · exact .inl ⟨rfl, rfl, by simp [Fr.add, hk]⟩
      · exact .inr ⟨g, g', r, rfl, rfl, hk, rfl⟩
theorem run_alike {deep deep' : Int} (hd : max deep 0 = max deep' 0) : ∀ (l : List Tk) {b b' : List Fr} {f f' : Fr}, Alike b f b' f' → runT deep b f l = runT deep' b' f' l
  | [], b, b', f, f', h => by
    rcases h with ⟨rfl, rfl, hk⟩ | ⟨g, g', r, rfl, rfl, -, rfl⟩
    · simp [runT, hk]
    · simp [runT]
  | tk :: r, b, b', f, f', h => by
    unfold runT
    rcases step_alike hd h tk with ⟨e, h1, h2⟩ | ⟨c, g, c', g', h1, h2, h3⟩
    · rw [h1, h2]
    · rw [h1, h2]; exact run_alike hd r h3
/-- The outermost list's own words, and the depth's sign, tell nothing. -/
theorem run_root (deep : Int) (l : Bool) (tk : Tk) (toks : List Tk) : runT deep [] ⟨l, tk, []⟩ toks = treesT deep toks :=
  run_alike (by omega) toks (.inl ⟨rfl, rfl, rfl⟩)

mutual
/-- How many tokens a tree has. -/
def Tr.size : Tr → Nat
  | .mk l _ kids => if l then 2 + sizes kids else 1
def sizes : List Tr → Nat
  | [] => 0
  | t :: r => t.size + sizes r
end
mutual
/-- Are two trees one (at: where tokens begin, too)? -/
def sameT (at_ : Bool) : Tr → Tr → Bool
  | .mk l tk kids, .mk l' tk' kids' => l == l' && (decide (tk.1 = tk'.1) && (decide (tk.2.1 = tk'.2.1) && (!(at_ && !decide (tk.2.2 = tk'.2.2)) && sameL at_ kids kids')))
def sameL (at_ : Bool) : List Tr → List Tr → Bool
  | [], [] => true
  | t :: r, t' :: r' => sameT at_ t t' && sameL at_ r r'
  | _, _ => false
end
mutual
theorem sameT_refl (at_ : Bool) : ∀ t : Tr, sameT at_ t t = true
  | .mk l tk kids => by simp [sameT, sameL_refl at_ kids]
theorem sameL_refl (at_ : Bool) : ∀ l : List Tr, sameL at_ l l = true
  | [] => rfl
  | t :: r => by simp [sameL, sameT_refl at_ t, sameL_refl at_ r]
end
end

section
open Go.RowKit

/-- A tree's five cells; kv: its kids. -/
def trCells (l : Bool) (tk : Tk) (kv : Value) : List Value := [.bool l, .int .i64 tk.1, .string ⟨tk.2.1.toArray⟩, .int .i64 tk.2.2, kv]
theorem trCells_len (l : Bool) (tk : Tk) (kv : Value) : (trCells l tk kv).length = 5 := rfl
/-- A slice's room. -/
def CapOk (ka : Option Addr) (cap : Nat) : Prop := cap ≤ maxLen ∧ (ka = none → cap = 0)
mutual
/-- Five cells are a tree; the blocks of what is below it are ok. -/
def Rep (w : World) (ok : Nat → Prop) : Tr → List Value → Prop
  | .mk l tk kids, cs => ∃ (ka : Option Addr) (cap : Nat), cs = trCells l tk (.slice ka kids.length cap) ∧ kids.length ≤ cap ∧ CapOk ka cap ∧ RepK w ok kids ka
/-- Kids lie at an address. -/
def RepK (w : World) (ok : Nat → Prop) : List Tr → Option Addr → Prop
  | [], _ => True
  | t :: r, ka => ∃ (b off : Nat) (c ks : List Value), ka = some ⟨b, off, none⟩ ∧ ok b ∧ b < w.heap.size ∧ (∀ j u, (c ++ ks)[j]? = some u → w.cell? ⟨b, off + j, none⟩ = some u) ∧ Rep w ok t c ∧ RepL w ok r ks
/-- Cells are trees, one behind another. -/
def RepL (w : World) (ok : Nat → Prop) : List Tr → List Value → Prop
  | [], cs => cs = []
  | t :: r, cs => ∃ c ks, cs = c ++ ks ∧ Rep w ok t c ∧ RepL w ok r ks
end
section
variable {w w' : World} {ok ok' : Nat → Prop}
mutual
theorem Rep.keep (hk : ∀ b, b < w.heap.size → ok b → ok' b ∧ w'.heap[b]? = w.heap[b]?) (hs : w.heap.size ≤ w'.heap.size) : ∀ (t : Tr) (cs : List Value), Rep w ok t cs → Rep w' ok' t cs
  | .mk l tk kids, cs, h => by
    simp only [Rep] at h ⊢
    obtain ⟨ka, cap, e, h1, h2, h3⟩ := h
    exact ⟨ka, cap, e, h1, h2, RepK.keep hk hs kids ka h3⟩
theorem RepK.keep (hk : ∀ b, b < w.heap.size → ok b → ok' b ∧ w'.heap[b]? = w.heap[b]?) (hs : w.heap.size ≤ w'.heap.size) : ∀ (l : List Tr) (ka : Option Addr), RepK w ok l ka → RepK w' ok' l ka
  | [], _, _ => by simp [RepK]
  | t :: r, ka, h => by
    simp only [RepK] at h ⊢
    obtain ⟨b, off, c, ks, e, h1, h2, h3, h4, h5⟩ := h
    obtain ⟨k1, k2⟩ := hk b h2 h1
    exact ⟨b, off, c, ks, e, k1, by omega, fun j u hj => (World.cell?_of_block (a := ⟨b, off + j, none⟩) k2).trans (h3 j u hj), Rep.keep hk hs t c h4, RepL.keep hk hs r ks h5⟩
theorem RepL.keep (hk : ∀ b, b < w.heap.size → ok b → ok' b ∧ w'.heap[b]? = w.heap[b]?) (hs : w.heap.size ≤ w'.heap.size) : ∀ (l : List Tr) (cs : List Value), RepL w ok l cs → RepL w' ok' l cs
  | [], cs, h => by simpa [RepL] using h
  | t :: r, cs, h => by
    simp only [RepL] at h ⊢
    obtain ⟨c, ks, e, h1, h2⟩ := h
    exact ⟨c, ks, e, Rep.keep hk hs t c h1, RepL.keep hk hs r ks h2⟩
end
theorem Rep.five {t : Tr} {cs : List Value} (h : Rep w ok t cs) : cs.length = 5 := by
  obtain ⟨l, tk, kids⟩ := t
  simp only [Rep] at h
  obtain ⟨ka, cap, e, -⟩ := h
  rw [e]; rfl
theorem RepL.len : ∀ {l : List Tr} {cs : List Value}, RepL w ok l cs → cs.length = l.length * 5
  | [], cs, h => by simp only [RepL] at h; rw [h]; rfl
  | t :: r, cs, h => by
    simp only [RepL] at h
    obtain ⟨c, ks, e, h1, h2⟩ := h
    rw [e, List.length_append, h1.five, RepL.len h2, List.length_cons]
    omega
theorem RepL.snoc : ∀ {l : List Tr} {cs c : List Value} {t : Tr}, RepL w ok l cs → Rep w ok t c → RepL w ok (l ++ [t]) (cs ++ c)
  | [], cs, c, t, h, k => by
    simp only [RepL] at h
    subst h
    simp only [List.nil_append, RepL]
    exact ⟨c, [], by simp, k, rfl⟩
  | s :: r, cs, c, t, h, k => by
    simp only [RepL] at h
    obtain ⟨d, ks, e, h1, h2⟩ := h
    simp only [List.cons_append, RepL]
    exact ⟨d, ks ++ c, by rw [e, List.append_assoc], h1, RepL.snoc h2 k⟩
/-- Kids out of a row. -/
theorem RepK.of {l : List Tr} {cs : List Value} {b : Nat} (h : RepL w ok l cs) (hok : ok b) (hlt : b < w.heap.size) (hc : ∀ j u, cs[j]? = some u → w.cell? ⟨b, 0 + j, none⟩ = some u) : RepK w ok l (some ⟨b, 0, none⟩) := by
  cases l with
  | nil => simp [RepK]
  | cons t r =>
    simp only [RepL] at h
    obtain ⟨c, ks, e, h1, h2⟩ := h
    subst e
    simp only [RepK]
    exact ⟨b, 0, c, ks, rfl, hok, hlt, hc, h1, h2⟩
end

theorem oneCell_tr (l : Bool) (tk : Tk) (ka : Option Addr) (n c : Nat) : ∀ u ∈ trCells l tk (.slice ka n c), u.oneCell' = true := by
  intro u hu
  simp [trCells] at hu
  rcases hu with rfl | rfl | rfl | rfl | rfl <;> rfl

/-- The tree's type's number. -/
abbrev tT : TypeId := 45
/-- One cell of an own row is set. -/
theorem own_put {w : World} {base : Nat} {e : TypeId} {size : Nat} {v : Value} {n g i : Nat} {xs : List Value} (h : w.ownsRow base e size v n xs) (hv : v.ownBlock = some g) (u : Value) : (w.setCell ⟨g, i, none⟩ u).ownsRow base e size v n (xs.set i u) := by
  refine ⟨by rw [List.length_set]; exact h.1, ?_⟩
  rcases h.2 with ⟨hn, h0⟩ | ⟨g', cap, cur, hv', hb, hg, hle, hmx, hsz, htk⟩
  · rw [hn] at hv; cases hv
  · subst hv'
    obtain rfl : g' = g := by simpa [Value.ownBlock] using hv
    refine .inr ⟨g', cap, cur.setIfInBounds i u, rfl, hb, ?_, hle, hmx, by simpa using hsz, ?_⟩
    · simp [World.setCell, Array.getElem?_modify, hg]
    · rw [Array.toList_setIfInBounds, List.take_set, htk]

/-- An open list, and where its kids are. -/
abbrev FV := Fr × Value
def FV.cells (x : FV) : List Value := trCells x.1.l x.1.tk x.2
def stCells (l : List FV) : List Value := l.flatMap FV.cells
theorem stCells_len (l : List FV) : (stCells l).length = l.length * 5 := by
  induction l with
  | nil => rfl
  | cons x r ih =>
    unfold stCells at *
    rw [List.flatMap_cons, List.length_append, ih, List.length_cons]
    show 5 + _ = _
    omega
/-- The blocks that may still be written. -/
def lives (v : Value) (l : List FV) : List Nat := (v :: l.map (·.2)).filterMap Value.ownBlock
/-- The open lists in memory. -/
structure Stk (w : World) (B : Nat) (v : Value) (l : List FV) : Prop where
  own : w.ownsRow B tT 5 v l.length (stCells l)
  kid : ∀ x ∈ l, ∃ ks, w.ownsRow B tT 5 x.2 x.1.kids.length ks ∧ RepL w (fun b => B ≤ b ∧ b ∉ lives v l) x.1.kids ks
  nod : (lives v l).Nodup
end

section
open Go.RowKit

/-- Trees in a slice. -/
def RepV (w : World) (ok : Nat → Prop) (kids : List Tr) (v : Value) : Prop := ∃ (ka : Option Addr) (cap : Nat), v = .slice ka kids.length cap ∧ kids.length ≤ cap ∧ CapOk ka cap ∧ RepK w ok kids ka
theorem RepV.tree {w : World} {ok : Nat → Prop} {l : Bool} {tk : Tk} {kids : List Tr} {v : Value} (h : RepV w ok kids v) : Rep w ok (.mk l tk kids) (trCells l tk v) := by
  obtain ⟨ka, cap, rfl, h1, h2, h3⟩ := h
  simp only [Rep]
  exact ⟨ka, cap, rfl, h1, h2, h3⟩
theorem RepV.keep {w w' : World} {ok ok' : Nat → Prop} {kids : List Tr} {v : Value} (h : RepV w ok kids v) (hk : ∀ b, b < w.heap.size → ok b → ok' b ∧ w'.heap[b]? = w.heap[b]?) (hs : w.heap.size ≤ w'.heap.size) : RepV w' ok' kids v := by
  obtain ⟨ka, cap, e, h1, h2, h3⟩ := h
  exact ⟨ka, cap, e, h1, h2, RepK.keep hk hs _ _ h3⟩
/-- An own row of kids, as a value. -/
theorem repV_of {w : World} {B : Nat} {ok : Nat → Prop} {v : Value} {kids : List Tr} {ks : List Value} (h : w.ownsRow B tT 5 v kids.length ks) (hr : RepL w ok kids ks) (hok : ∀ g, v.ownBlock = some g → ok g) : RepV w ok kids v := by
  have hc := fun g => World.ownsRow.cells h (g := g)
  have hl := World.ownsRow.lt h
  rcases h.2 with ⟨hv, h0⟩ | ⟨g, cap, cur, hv, hb, hg, hle, hmx, hsz, htk⟩
  · have : kids = [] := List.eq_nil_of_length_eq_zero h0
    subst this
    exact ⟨none, 0, by rw [hv]; rfl, Nat.le_refl _, ⟨Nat.zero_le _, fun _ => rfl⟩, by simp [RepK]⟩
  · subst hv
    refine ⟨_, cap, rfl, hle, ⟨hmx, fun h => by cases h⟩, RepK.of hr (hok g rfl) (hl g rfl).2 (fun j u hj => ?_)⟩
    have := hc g rfl j u hj
    have e : (⟨g, 0, none⟩ : Addr).add j = ⟨g, 0 + j, none⟩ := by unfold Addr.add; split <;> simp_all
    rwa [e] at this

section
variable {w w' : World} {B : Nat} {v : Value} {l : List FV}
theorem lives_mem {x : FV} (hx : x ∈ l) {g : Nat} (hg : x.2.ownBlock = some g) : g ∈ lives v l := by
  unfold lives
  rw [List.mem_filterMap]
  exact ⟨x.2, List.mem_cons_of_mem _ (List.mem_map_of_mem hx), hg⟩
theorem lives_top {g : Nat} (hg : v.ownBlock = some g) : g ∈ lives v l := by
  unfold lives
  rw [List.mem_filterMap]
  exact ⟨v, List.mem_cons_self, hg⟩
theorem mem_lives {g : Nat} (h : g ∈ lives v l) : v.ownBlock = some g ∨ ∃ x ∈ l, x.2.ownBlock = some g := by
  unfold lives at h
  rw [List.mem_filterMap] at h
  obtain ⟨u, hu, hg⟩ := h
  rcases List.mem_cons.1 hu with rfl | hu
  · exact .inl hg
  · obtain ⟨x, hx, rfl⟩ := List.mem_map.1 hu
    exact .inr ⟨x, hx, hg⟩
theorem Stk.live_lt (s : Stk w B v l) {g : Nat} (h : g ∈ lives v l) : B ≤ g ∧ g < w.heap.size := by
  rcases mem_lives h with hv | ⟨x, hx, hg⟩
  · exact s.own.lt g hv
  · obtain ⟨ks, ho, -⟩ := s.kid x hx
    exact ho.lt g hg
/-- Nothing that is there changes. -/
theorem Stk.grown (s : Stk w B v l) (hg : w.grownBy w' none) : Stk w' B v l := by
  have hn : ∀ u : Value, u.ownBlock = none ∨ u.ownBlock ≠ none := fun u => by cases u.ownBlock <;> simp
  refine ⟨s.own.kept hg (hn v), fun x hx => ?_, s.nod⟩
  obtain ⟨ks, ho, hr⟩ := s.kid x hx
  exact ⟨ks, ho.kept hg (hn _), RepL.keep (fun b hb hk => ⟨hk, hg.block b hb (by simp)⟩) hg.size _ _ hr⟩
/-- A list is opened. -/
theorem Stk.push (s : Stk w B v l) {v' : Value} {tk : Tk} (hown : w'.ownsRow B tT 5 v' (l.length + 1) (stCells l ++ trCells true tk (.slice none 0 0))) (hg : w.grownBy w' v.ownBlock) (hb : v'.ownBlock = v.ownBlock ∨ v'.ownBlock = some w.heap.size) :
    Stk w' B v' (l ++ [(⟨true, tk, []⟩, .slice none 0 0)]) := by
  have hlv : ∀ g, g ∈ lives v' (l ++ [(⟨true, tk, []⟩, .slice none 0 0)]) → g ∈ lives v l ∨ g = w.heap.size := by
    intro g hgm
    rcases mem_lives hgm with h | ⟨x, hx, h⟩
    · rcases hb with e | e
      · rw [e] at h; exact .inl (lives_top h)
      · rw [e] at h; injection h with h; exact .inr h.symm
    · rw [List.mem_append, List.mem_singleton] at hx
      rcases hx with hx | rfl
      · exact .inl (lives_mem hx h)
      · cases h
  refine ⟨?_, fun x hx => ?_, ?_⟩
  · have e : stCells (l ++ [(⟨true, tk, []⟩, .slice none 0 0)]) = stCells l ++ trCells true tk (.slice none 0 0) := by simp [stCells, FV.cells]
    rw [e, List.length_append, List.length_singleton]
    exact hown
  · rw [List.mem_append, List.mem_singleton] at hx
    rcases hx with hx | rfl
    · obtain ⟨ks, ho, hr⟩ := s.kid x hx
      refine ⟨ks, ho.kept hg ?_, RepL.keep (fun b hbl ⟨h1, h2⟩ => ⟨⟨h1, fun hm => ?_⟩, hg.block b hbl (fun e => h2 (lives_top e.symm))⟩) hg.size _ _ hr⟩
      · cases hx2 : x.2.ownBlock with
        | none => exact .inl rfl
        | some k =>
          right
          intro e
          have hnd := s.nod
          unfold lives at hnd
          rw [List.filterMap_cons_some e.symm, List.nodup_cons] at hnd
          exact hnd.1 (List.mem_filterMap.2 ⟨x.2, List.mem_map_of_mem hx, hx2⟩)
      · rcases hlv b hm with h | h
        · exact h2 h
        · omega
    · exact ⟨[], World.ownsRow_nil _ _ _ _, by simp [RepL]⟩
  · have hnd := s.nod
    unfold lives at hnd ⊢
    have e : (v' :: (l ++ [((⟨true, tk, []⟩, .slice none 0 0) : FV)]).map (·.2)).filterMap Value.ownBlock = (v' :: l.map (·.2)).filterMap Value.ownBlock := by
      rw [List.map_append, ← List.cons_append, List.filterMap_append]; simp [Value.ownBlock]
    rw [e]
    rcases hb with h | h
    · have e2 : ∀ r : List Value, (v' :: r).filterMap Value.ownBlock = (v :: r).filterMap Value.ownBlock := fun r => by simp only [List.filterMap_cons, h]
      rw [e2]; exact hnd
    · rw [List.filterMap_cons_some h, List.nodup_cons]
      refine ⟨fun hm => ?_, ?_⟩
      · have hm2 : w.heap.size ∈ lives v l := by
          obtain ⟨u, hu, hk⟩ := List.mem_filterMap.1 hm
          exact List.mem_filterMap.2 ⟨u, List.mem_cons_of_mem _ hu, hk⟩
        have := (s.live_lt hm2).2
        omega
      · cases hv : v.ownBlock with
        | none => rwa [List.filterMap_cons_none hv] at hnd
        | some k => rw [List.filterMap_cons_some hv, List.nodup_cons] at hnd; exact hnd.2
/-- The kids' blocks of different lists, and the lists' own block, are different ones. -/
theorem nodup_split {pre post : List FV} {x : FV} (h : (lives v (pre ++ x :: post)).Nodup) {g : Nat} (hg : x.2.ownBlock = some g) : g ∉ lives v (pre ++ post) := by
  unfold lives at h ⊢
  rw [List.map_append, List.map_cons, ← List.cons_append, List.filterMap_append, List.filterMap_cons_some hg] at h
  rw [List.map_append, ← List.cons_append, List.filterMap_append]
  have := (List.nodup_append.1 h)
  intro hm
  rcases List.mem_append.1 hm with hm | hm
  · exact this.2.2 g hm g List.mem_cons_self rfl
  · exact (List.nodup_cons.1 this.2.1).1 hm
theorem lives_sub {pre post : List FV} {x : FV} {g : Nat} (h : g ∈ lives v (pre ++ post)) : g ∈ lives v (pre ++ x :: post) := by
  rcases mem_lives h with h | ⟨y, hy, h⟩
  · exact lives_top h
  · exact lives_mem (by simp at hy ⊢; rcases hy with h | h <;> simp [h]) h
/-- A tree is added to one of the lists: its kids' row has grown, the list's cell names it. -/
theorem Stk.put {pre post : List FV} {f : Fr} {kv kv' : Value} {t : Tr} {c ks : List Value} {g : Nat} (s : Stk w B v (pre ++ (f, kv) :: post)) (hown : w'.ownsRow B tT 5 kv' (f.kids.length + 1) (ks ++ c)) (hks : RepL w (fun b => B ≤ b ∧ b ∉ lives v (pre ++ (f, kv) :: post)) f.kids ks) (hg : w.grownBy w' kv.ownBlock) (hb : kv'.ownBlock = kv.ownBlock ∨ kv'.ownBlock = some w.heap.size)
    (ht : Rep w (fun b => B ≤ b ∧ b ∉ lives v (pre ++ (f, kv) :: post)) t c) (hv : v.ownBlock = some g) :
    Stk (w'.setCell ⟨g, pre.length * 5 + 4, none⟩ kv') B v (pre ++ (f.add t, kv') :: post) := by
  have hgl := s.live_lt (lives_top hv)
  have hkv : ∀ k, kv.ownBlock = some k → k ≠ g := fun k hk e => by
    have := nodup_split s.nod (x := (f, kv)) hk
    exact this (e ▸ lives_top hv)
  have hnew : ∀ k, k ∈ lives v (pre ++ (f.add t, kv') :: post) → k ∈ lives v (pre ++ (f, kv) :: post) ∨ k = w.heap.size := by
    intro k hk
    rcases mem_lives hk with h | ⟨x, hx, h⟩
    · exact .inl (lives_top h)
    · rw [List.mem_append, List.mem_cons] at hx
      rcases hx with hx | rfl | hx
      · exact .inl (lives_mem (by simp [hx]) h)
      · rcases hb with e | e
        · rw [e] at h; exact .inl (lives_mem (x := (f, kv)) (by simp) h)
        · rw [e] at h; injection h with h; exact .inr h.symm
      · exact .inl (lives_mem (by simp [hx]) h)
  have hsz : (w'.setCell ⟨g, pre.length * 5 + 4, none⟩ kv').heap.size = w'.heap.size := World.size_setCell _ _ _
  have hkeep : ∀ b, b < w.heap.size → (B ≤ b ∧ b ∉ lives v (pre ++ (f, kv) :: post)) → (B ≤ b ∧ b ∉ lives v (pre ++ (f.add t, kv') :: post)) ∧ (w'.setCell ⟨g, pre.length * 5 + 4, none⟩ kv').heap[b]? = w.heap[b]? := by
    intro b hbl ⟨h1, h2⟩
    refine ⟨⟨h1, fun hm => ?_⟩, ?_⟩
    · rcases hnew b hm with h | h
      · exact h2 h
      · omega
    · have n1 : b ≠ g := fun e => h2 (e ▸ lives_top hv)
      rw [Below.heap_setCell w' ⟨g, pre.length * 5 + 4, none⟩ kv' b n1]
      exact hg.block b hbl (fun e => h2 (lives_mem (x := (f, kv)) (by simp) e.symm))
  have hsize : w.heap.size ≤ (w'.setCell ⟨g, pre.length * 5 + 4, none⟩ kv').heap.size := by rw [hsz]; exact hg.size
  have hother : ∀ x : FV, x ∈ pre ∨ x ∈ post → x.2.ownBlock = none ∨ x.2.ownBlock ≠ kv.ownBlock := by
    intro x hx
    cases hx2 : x.2.ownBlock with
    | none => exact .inl rfl
    | some k =>
      right
      intro e
      exact nodup_split s.nod (x := (f, kv)) e.symm (lives_mem (x := x) (by simp; exact hx) hx2)
  have hset : ∀ {n : Nat} {u : Value} {xs : List Value}, u.ownBlock ≠ some g → w'.ownsRow B tT 5 u n xs → (w'.setCell ⟨g, pre.length * 5 + 4, none⟩ kv').ownsRow B tT 5 u n xs := fun hne h => ownsRow_setCell_other h hne _
  have hkvg : kv'.ownBlock ≠ some g := by
    rcases hb with e | e
    · rw [e]
      cases hk : kv.ownBlock with
      | none => simp
      | some k => have := hkv k hk; simpa using this
    · rw [e]; simp; omega
  refine ⟨?_, fun x hx => ?_, ?_⟩
  · have h1 := own_put (s.own.kept hg (by right; rw [hv]; intro e; exact hkv g e.symm rfl)) hv (i := pre.length * 5 + 4) kv'
    have e1 : (pre ++ (f.add t, kv') :: post).length = (pre ++ (f, kv) :: post).length := by simp
    have e2 : (stCells (pre ++ (f, kv) :: post)).set (pre.length * 5 + 4) kv' = stCells (pre ++ (f.add t, kv') :: post) := by
      have a1 : ∀ y : FV, stCells (pre ++ y :: post) = stCells pre ++ (FV.cells y ++ stCells post) := fun y => by simp [stCells]
      rw [a1, a1, List.set_append, if_neg (by rw [stCells_len]; omega), stCells_len, Nat.add_sub_cancel_left]
      rfl
    rw [e1, ← e2]
    exact h1
  · rw [List.mem_append, List.mem_cons] at hx
    have hcase : (x ∈ pre ∨ x ∈ post) ∨ x = (f.add t, kv') := by rcases hx with h | h | h; exact .inl (.inl h); exact .inr h; exact .inl (.inr h)
    rcases hcase with hx | rfl
    · obtain ⟨ks', ho, hr⟩ := s.kid x (by rcases hx with h | h <;> simp [h])
      refine ⟨ks', hset ?_ (ho.kept hg (hother x hx)), RepL.keep hkeep hsize _ _ hr⟩
      intro e
      rcases hx with hx | hx
      · obtain ⟨p1, p2, rfl⟩ := List.append_of_mem hx
        have := nodup_split (pre := p1) (post := p2 ++ (f, kv) :: post) (by simpa using s.nod) e
        exact this (lives_top hv)
      · obtain ⟨p1, p2, rfl⟩ := List.append_of_mem hx
        have := nodup_split (pre := pre ++ (f, kv) :: p1) (post := p2) (by simpa using s.nod) e
        exact this (lives_top hv)
    · refine ⟨ks ++ c, ?_, ?_⟩
      · have : (f.add t).kids.length = f.kids.length + 1 := by simp [Fr.add]
        rw [this]
        exact hset hkvg hown
      · exact RepL.snoc (RepL.keep hkeep hsize _ _ hks) (Rep.keep hkeep hsize _ _ ht)
  · have hnd := s.nod
    unfold lives at hnd ⊢
    rw [List.map_append, List.map_cons, ← List.cons_append, List.filterMap_append] at hnd ⊢
    cases hk' : kv'.ownBlock with
    | none =>
      rw [List.filterMap_cons_none hk']
      refine hnd.sublist (List.Sublist.append (List.Sublist.refl _) ?_)
      cases hk : kv.ownBlock with
      | none => rw [List.filterMap_cons_none hk]; exact List.Sublist.refl _
      | some k => rw [List.filterMap_cons_some hk]; exact List.sublist_cons_self _ _
    | some k' =>
      rw [List.filterMap_cons_some hk']
      rcases hb with e | e
      · rw [e] at hk'
        rwa [List.filterMap_cons_some hk'] at hnd
      · rw [hk'] at e
        injection e with e
        have hlt : ∀ k, k ∈ (v :: pre.map (·.2)).filterMap Value.ownBlock ∨ k ∈ (post.map (·.2)).filterMap Value.ownBlock → k < w.heap.size := by
          intro k hk
          refine (s.live_lt (g := k) ?_).2
          unfold lives
          rw [List.map_append, List.map_cons, ← List.cons_append, List.filterMap_append, List.mem_append]
          rcases hk with h | h
          · exact .inl h
          · right
            cases hkk : kv.ownBlock with
            | none => rw [List.filterMap_cons_none hkk]; exact h
            | some z => rw [List.filterMap_cons_some hkk]; exact List.mem_cons_of_mem _ h
        have hnd2 : ((v :: pre.map (·.2)).filterMap Value.ownBlock ++ (post.map (·.2)).filterMap Value.ownBlock).Nodup := by
          refine hnd.sublist (List.Sublist.append (List.Sublist.refl _) ?_)
          cases hk : kv.ownBlock with
          | none => rw [List.filterMap_cons_none hk]; exact List.Sublist.refl _
          | some k => rw [List.filterMap_cons_some hk]; exact List.sublist_cons_self _ _
        rw [List.nodup_append] at hnd2 ⊢
        refine ⟨hnd2.1, List.nodup_cons.2 ⟨fun hm => ?_, hnd2.2.1⟩, fun a ha b hb2 => ?_⟩
        · have := hlt k' (.inr hm); omega
        · rcases List.mem_cons.1 hb2 with rfl | hb2
          · have := hlt a (.inl ha); omega
          · exact hnd2.2.2 a ha b hb2
/-- The innermost list is taken off. -/
theorem Stk.pop {l : List FV} {x : FV} {g cap : Nat} (s : Stk w B (.slice (some ⟨g, 0, none⟩) (l.length + 1) cap) (l ++ [x])) : Stk w B (.slice (some ⟨g, 0, none⟩) l.length cap) l := by
  have hlv : lives (.slice (some ⟨g, 0, none⟩) l.length cap) l = lives (.slice (some ⟨g, 0, none⟩) (l.length + 1) cap) l := rfl
  have hsub : ∀ b, b ∈ lives (.slice (some ⟨g, 0, none⟩) l.length cap) l → b ∈ lives (.slice (some ⟨g, 0, none⟩) (l.length + 1) cap) (l ++ [x]) := fun b hb => by
    have := lives_sub (v := .slice (some ⟨g, 0, none⟩) (l.length + 1) cap) (pre := l) (post := []) (x := x) (g := b) (by simpa [hlv] using hb)
    simpa using this
  refine ⟨?_, fun y hy => ?_, ?_⟩
  · have h := s.own
    have e : stCells (l ++ [x]) = stCells l ++ FV.cells x := by simp [stCells]
    refine ⟨stCells_len l, ?_⟩
    rcases h.2 with ⟨hv, h0⟩ | ⟨g', cap', cur, hv, hb, hg, hle, hmx, hsz, htk⟩
    · simp at h0
    · injection hv with h1 h2 h3
      injection h1 with h1
      injection h1 with h1 _ _
      subst h1 h3
      refine .inr ⟨g, cap, cur, rfl, hb, hg, by simp at hle; omega, hmx, hsz, ?_⟩
      rw [e, List.length_append, List.length_singleton] at htk
      have h5 := congrArg (List.take (l.length * 5)) htk
      rw [List.take_take, Nat.min_eq_left (by omega)] at h5
      rw [h5, List.take_append_of_le_length (by rw [stCells_len]; exact Nat.le_refl _), List.take_of_length_le (by rw [stCells_len]; exact Nat.le_refl _)]
  · obtain ⟨ks, ho, hr⟩ := s.kid y (by simp [hy])
    exact ⟨ks, ho, RepL.keep (fun b hb ⟨h1, h2⟩ => ⟨⟨h1, fun hm => h2 (hsub b hm)⟩, rfl⟩) (Nat.le_refl _) _ _ hr⟩
  · have hnd := s.nod
    rw [hlv]
    unfold lives at hnd ⊢
    rw [List.map_append, ← List.cons_append, List.filterMap_append] at hnd
    exact (List.nodup_append.1 hnd).1
/-- The tree of the innermost list, beside the others. -/
theorem Stk.top {l : List FV} {f : Fr} {kv : Value} (s : Stk w B v (l ++ [(f, kv)])) : RepV w (fun b => B ≤ b ∧ b ∉ lives v l) f.kids kv := by
  obtain ⟨ks, ho, hr⟩ := s.kid (f, kv) (by simp)
  have hsub : ∀ b, b ∈ lives v l → b ∈ lives v (l ++ [(f, kv)]) := fun b hb => by
    have := lives_sub (v := v) (pre := l) (post := []) (x := (f, kv)) (g := b) (by simpa using hb)
    simpa using this
  refine repV_of ho (RepL.keep (ok' := fun b => B ≤ b ∧ b ∉ lives v l) (fun b hb ⟨h1, h2⟩ => ⟨⟨h1, fun hm => h2 (hsub b hm)⟩, rfl⟩) (Nat.le_refl _) _ _ hr) (fun g hg => ⟨(ho.lt g hg).1, ?_⟩)
  have := nodup_split (v := v) (pre := l) (post := []) (x := (f, kv)) s.nod hg
  simpa using this
/-- A cell of one of the lists. -/
theorem Stk.cell {pre post : List FV} {x : FV} {g : Nat} (s : Stk w B v (pre ++ x :: post)) (hv : v.ownBlock = some g) {j : Nat} {u : Value} (hj : (FV.cells x)[j]? = some u) : w.cell? ⟨g, pre.length * 5 + j, none⟩ = some u := by
  have h := World.ownsRow.cells s.own hv (pre.length * 5 + j) u (by
    have e : stCells (pre ++ x :: post) = stCells pre ++ (FV.cells x ++ stCells post) := by simp [stCells]
    have hl : j < (FV.cells x).length := (List.getElem?_eq_some_iff.1 hj).1
    rw [e, List.getElem?_append_right (by rw [stCells_len]; omega), stCells_len, Nat.add_sub_cancel_left, List.getElem?_append_left hl]
    exact hj)
  have e : (⟨g, 0, none⟩ : Addr).add (pre.length * 5 + j) = ⟨g, pre.length * 5 + j, none⟩ := by unfold Addr.add; split <;> simp_all
  rwa [e] at h
end
end

section
open Go.RowKit

theorem setCell_swap (w : World) {p q : Addr} (h : p.block ≠ q.block) (u v : Value) : (w.setCell p u).setCell q v = (w.setCell q v).setCell p u := by
  unfold World.setCell
  simp only
  congr 1
  apply Array.ext_getElem?
  intro i
  simp only [Array.getElem?_modify]
  by_cases h1 : p.block = i
  · by_cases h2 : q.block = i
    · exact absurd (h1.trans h2.symm) h
    · simp [h1, h2]
  · by_cases h2 : q.block = i <;> simp [h1, h2]
/-- Five cells of block g from o on. -/
def set5 (w : World) (g o : Nat) (a b c d e : Value) : World := ((((w.setCell ⟨g, o, none⟩ a).setCell ⟨g, o + 1, none⟩ b).setCell ⟨g, o + 2, none⟩ c).setCell ⟨g, o + 3, none⟩ d).setCell ⟨g, o + 4, none⟩ e
theorem own_put5 {w : World} {base : Nat} {t : TypeId} {size : Nat} {v : Value} {n g : Nat} {ks zs : List Value} (h : w.ownsRow base t size v n (ks ++ zs)) (hv : v.ownBlock = some g) (hz : zs.length = 5) (a b c d e : Value) :
    (set5 w g ks.length a b c d e).ownsRow base t size v n (ks ++ [a, b, c, d, e]) := by
  have h1 := own_put (own_put (own_put (own_put (own_put h hv (i := ks.length) a) hv (i := ks.length + 1) b) hv (i := ks.length + 2) c) hv (i := ks.length + 3) d) hv (i := ks.length + 4) e
  have e1 : (((((ks ++ zs).set ks.length a).set (ks.length + 1) b).set (ks.length + 2) c).set (ks.length + 3) d).set (ks.length + 4) e = ks ++ [a, b, c, d, e] := by
    match zs, hz with
    | [z0, z1, z2, z3, z4], _ => simp
  rw [e1] at h1
  exact h1
theorem set5_swap (w : World) {g g' o o' : Nat} (h : g ≠ g') (a b c d e u : Value) : (set5 w g o a b c d e).setCell ⟨g', o', none⟩ u = set5 (w.setCell ⟨g', o', none⟩ u) g o a b c d e := by
  unfold set5
  rw [setCell_swap _ (p := ⟨g, o + 4, none⟩) (q := ⟨g', o', none⟩) h, setCell_swap _ (p := ⟨g, o + 3, none⟩) (q := ⟨g', o', none⟩) h, setCell_swap _ (p := ⟨g, o + 2, none⟩) (q := ⟨g', o', none⟩) h, setCell_swap _ (p := ⟨g, o + 1, none⟩) (q := ⟨g', o', none⟩) h, setCell_swap _ (p := ⟨g, o, none⟩) (q := ⟨g', o', none⟩) h]
theorem set5_size (w : World) (g o : Nat) (a b c d e : Value) : (set5 w g o a b c d e).heap.size = w.heap.size := by unfold set5; simp
theorem set5_other (w : World) {g o i : Nat} (h : i ≠ g) (a b c d e : Value) : (set5 w g o a b c d e).heap[i]? = w.heap[i]? := by
  unfold set5
  rw [Below.heap_setCell _ _ _ _ h, Below.heap_setCell _ _ _ _ h, Below.heap_setCell _ _ _ _ h, Below.heap_setCell _ _ _ _ h, Below.heap_setCell _ _ _ _ h]
theorem own_frozen {w : World} {base : Nat} {t : TypeId} {size : Nat} {v : Value} {n g : Nat} {xs : List Value} (h : w.ownsRow base t size v n xs) (hv : v.ownBlock = some g) (i : Nat) : w.frozen? ⟨g, i, none⟩ = false := by
  rcases h.2 with ⟨hn, h0⟩ | ⟨g', cap, cur, hv', hb, hg, _⟩
  · rw [hn] at hv; cases hv
  · subst hv'
    obtain rfl : g' = g := by simpa [Value.ownBlock] using hv
    simp [World.frozen?, hg]
theorem own_cell {w : World} {base : Nat} {t : TypeId} {size : Nat} {v : Value} {n g : Nat} {xs : List Value} (h : w.ownsRow base t size v n xs) (hv : v.ownBlock = some g) {i : Nat} {u : Value} (hi : xs[i]? = some u) : w.cell? ⟨g, i, none⟩ = some u := by
  have := World.ownsRow.cells h hv i u hi
  have e : (⟨g, 0, none⟩ : Addr).add i = ⟨g, i, none⟩ := by unfold Addr.add; split <;> simp_all
  rwa [e] at this
theorem grown_set1 {w w' : World} {row : Option Nat} (h : w.grownBy w' row) {p : Addr} (hp : row = some p.block ∨ w.heap.size ≤ p.block) (u : Value) : w.grownBy (w'.setCell p u) row :=
  ⟨h.os, h.tape, h.output, by rw [World.size_setCell]; exact h.size, fun i hi hne => (Below.heap_setCell w' p u i (by
    rintro rfl
    rcases hp with hp | hp
    · exact hne hp.symm
    · omega)).trans (h.block i hi hne)⟩
/-- A row that has grown and whose last element was set: what was there before. -/
theorem grown_set5 {w w' : World} {v v' : Value} {g o : Nat} (hg : w.grownBy w' v.ownBlock) (hb : v'.ownBlock = v.ownBlock ∨ v'.ownBlock = some w.heap.size) (hv : v'.ownBlock = some g) (a b c d e : Value) : w.grownBy (set5 w' g o a b c d e) v.ownBlock := by
  have hp : v.ownBlock = some g ∨ w.heap.size ≤ g := by
    rcases hb with h | h
    · exact .inl (by rw [← h, hv])
    · rw [hv] at h; injection h with h; exact .inr (by omega)
  unfold set5
  exact grown_set1 (grown_set1 (grown_set1 (grown_set1 (grown_set1 hg hp a) hp b) hp c) hp d) hp e
theorem below_grown_row {w w' : World} {B : Nat} {e : TypeId} {size : Nat} {v : Value} {n : Nat} {xs : List Value} (hg : w.grownBy w' v.ownBlock) (ho : w.ownsRow B e size v n xs) (hB : B ≤ w.heap.size) : Below B w w' :=
  ⟨hg.os, hg.tape, hg.output, hg.size, fun i hi => hg.block i (by omega) (fun h => by have := (ho.lt i h.symm).1; omega)⟩
/-- A tree is added to a list: its kids' row has grown, the list's cell names it. -/
theorem put_at {c w3 : World} {B : Nat} {v : Value} {pre post : List FV} {fr : Fr} {kv v' : Value} {t : Tr} {cs ks : List Value} {g : Nat} (s : Stk c B v (pre ++ (fr, kv) :: post)) (hB : B ≤ c.heap.size)
    (hko : c.ownsRow B tT 5 kv fr.kids.length ks) (hkr : RepL c (fun b => B ≤ b ∧ b ∉ lives v (pre ++ (fr, kv) :: post)) fr.kids ks)
    (own3 : w3.ownsRow B tT 5 v' (fr.kids.length + 1) (ks ++ cs)) (hg : c.grownBy w3 kv.ownBlock) (hb : v'.ownBlock = kv.ownBlock ∨ v'.ownBlock = some c.heap.size)
    (ht : Rep c (fun b => B ≤ b ∧ b ∉ lives v (pre ++ (fr, kv) :: post)) t cs) (hv : v.ownBlock = some g) :
    Stk (w3.setCell ⟨g, pre.length * 5 + 4, none⟩ v') B v (pre ++ (fr.add t, v') :: post) ∧ Below B c (w3.setCell ⟨g, pre.length * 5 + 4, none⟩ v') :=
  ⟨s.put own3 hkr hg hb ht hv, (below_grown_row hg hko hB).setCell (s.own.lt g hv).1 _⟩
/-- Likewise, the new element set behind the growth. -/
theorem put5_at {c w3 : World} {B : Nat} {v : Value} {pre post : List FV} {fr : Fr} {kv v' : Value} {t : Tr} {a1 a2 a3 a4 a5 : Value} {zs ks : List Value} {g g3 : Nat} (s : Stk c B v (pre ++ (fr, kv) :: post)) (hB : B ≤ c.heap.size)
    (hko : c.ownsRow B tT 5 kv fr.kids.length ks) (hkr : RepL c (fun b => B ≤ b ∧ b ∉ lives v (pre ++ (fr, kv) :: post)) fr.kids ks)
    (own3 : w3.ownsRow B tT 5 v' (fr.kids.length + 1) (ks ++ zs)) (hz : zs.length = 5) (hg : c.grownBy w3 kv.ownBlock) (hb : v'.ownBlock = kv.ownBlock ∨ v'.ownBlock = some c.heap.size) (hv3 : v'.ownBlock = some g3)
    (ht : Rep c (fun b => B ≤ b ∧ b ∉ lives v (pre ++ (fr, kv) :: post)) t [a1, a2, a3, a4, a5]) (hv : v.ownBlock = some g) :
    Stk ((set5 w3 g3 (fr.kids.length * 5) a1 a2 a3 a4 a5).setCell ⟨g, pre.length * 5 + 4, none⟩ v') B v (pre ++ (fr.add t, v') :: post) ∧ Below B c ((set5 w3 g3 (fr.kids.length * 5) a1 a2 a3 a4 a5).setCell ⟨g, pre.length * 5 + 4, none⟩ v') := by
  have h1 := own_put5 own3 hv3 hz a1 a2 a3 a4 a5
  have e : ks.length = fr.kids.length * 5 := hko.1
  rw [e] at h1
  exact put_at s hB hko hkr h1 (grown_set5 hg hb hv3 a1 a2 a3 a4 a5) hb ht hv
/-- The cell that names a list's kids; a cell of the list. -/
theorem stk_cells {w : World} {B : Nat} {v : Value} {pre post : List FV} {x : FV} {g : Nat} (h : w.ownsRow B tT 5 v (pre ++ x :: post).length (stCells (pre ++ x :: post))) (hv : v.ownBlock = some g) {j : Nat} {u : Value} (hj : (FV.cells x)[j]? = some u) : w.cell? ⟨g, pre.length * 5 + j, none⟩ = some u :=
  own_cell h hv (by
    have e : stCells (pre ++ x :: post) = stCells pre ++ (FV.cells x ++ stCells post) := by simp [stCells]
    have hl : j < (FV.cells x).length := (List.getElem?_eq_some_iff.1 hj).1
    rw [e, List.getElem?_append_right (by rw [stCells_len]; omega), stCells_len, Nat.add_sub_cancel_left, List.getElem?_append_left hl]
    exact hj)
theorem own_room {w : World} {base : Nat} {e : TypeId} {size n c m : Nat} {a : Option Addr} {xs : List Value} (h : w.ownsRow base e size (.slice a n c) m xs) : m ≤ c ∧ c ≤ maxLen := by
  rcases h.2 with ⟨hn, h0⟩ | ⟨g, c', cur, hv, hb, hg, hle, hmx, _⟩
  · injection hn with _ _ h3; subst h0 h3; exact ⟨Nat.le_refl _, Nat.zero_le _⟩
  · injection hv with _ _ h3; subst h3; exact ⟨hle, hmx⟩
/-- A row's new element, before it is set. -/
theorem new_cell {w : World} {B : Nat} {v : Value} {n g : Nat} {ks zs : List Value} (h : w.ownsRow B tT 5 v (n + 1) (ks ++ zs)) (hk : ks.length = n * 5) (hv : v.ownBlock = some g) {i : Nat} {u : Value} (hi : zs[i]? = some u) : w.cell? ⟨g, n * 5 + i, none⟩ = some u :=
  own_cell h hv (by rw [List.getElem?_append_right (by omega), hk, Nat.add_sub_cancel_left]; exact hi)
end

section
section
variable {P : Program} {ops : Array Oper} {Q : Exit → Act → World → Prop} {md : Region.Mode} {S : World → Prop} {F : Nat → Bool}

/-- Has all of the first part come up? -/
def fullF (F : Nat → Bool) (ops : Array Oper) (listed : Array Bool) : Bool := (List.range ops.size).all fun i => !F i || listed.getD i true
/-- Whatever order is picked: while the first part has not come up, S holds behind every operation; then anything goes. -/
def Till (P : Program) (md : Region.Mode) (ops : Array Oper) (Q : Exit → Act → World → Prop) (S : World → Prop) (F : Nat → Bool) : Nat → Array Bool → Act → World → Prop
  | 0, listed, a, w => wpAny P md ops Q 0 listed a w
  | fuel + 1, listed, a, w =>
    if fullF F ops listed = true then wpAny P md ops Q (fuel + 1) listed a w
    else (Region.ready md ops listed = [] → Q .normal a w) ∧ ∀ i ∈ Region.ready md ops listed, wpOp P ops Q i (fun a' w' => S w' ∧ Till P md ops Q S F fuel (listed.setIfInBounds i true) a' w') a w
theorem wpAny_of_till : ∀ (fuel : Nat) (listed : Array Bool) (a : Act) (w : World), Till P md ops Q S F fuel listed a w → wpAny P md ops Q fuel listed a w
  | 0, _, _, _, h => h
  | fuel + 1, listed, a, w, h => by
    unfold Till at h
    split at h
    · exact h
    · exact ⟨h.1, fun i hi => wpOp_mono (fun a' w' h' => wpAny_of_till fuel _ a' w' h'.2) (h.2 i hi)⟩
theorem till_of_any {fuel : Nat} {listed : Array Bool} {a : Act} {w : World} (hf : fullF F ops listed = true) (h : wpAny P md ops Q fuel listed a w) : Till P md ops Q S F fuel listed a w := by
  cases fuel with
  | zero => exact h
  | succ n => unfold Till; rw [if_pos hf]; exact h

theorem full_not {listed : Array Bool} {i : Nat} (hi : i < ops.size) (hF : F i = true) (h : listed.getD i true = false) : ¬ fullF F ops listed = true := by
  intro hf
  unfold fullF at hf
  have := List.all_eq_true.1 hf i (List.mem_range.2 hi)
  rw [hF, h] at this
  cases this

/-- The rest waits for the first part. -/
def waitsF (md : Region.Mode) (F : Nat → Bool) (ops : Array Oper) : Bool :=
  (List.range ops.size).all fun j => F j || (List.range ops.size).all fun i => !F i || ((ops[j]?).map fun o => o.after.any fun e => Region.binds md e && e.on == i).getD false
theorem waits_spec (h : waitsF md F ops = true) {listed : Array Bool} {i j : Nat} (hj : j ∈ Region.ready md ops listed) (hi : i < ops.size) (hF : F i = true) (hl : listed.getD i true = false) : F j = true := by
  obtain ⟨hjun, oj, hoj, hall⟩ := mem_ready.1 hj
  have hjs : j < ops.size := (Array.getElem?_eq_some_iff.1 hoj).1
  have h1 := List.all_eq_true.1 h j (List.mem_range.2 hjs)
  rw [Bool.or_eq_true] at h1
  rcases h1 with h1 | h1
  · exact h1
  · have h2 := List.all_eq_true.1 h1 i (List.mem_range.2 hi)
    rw [hF, hoj] at h2
    simp only [Bool.not_true, Bool.false_or, Option.map_some, Option.getD_some] at h2
    rw [Array.any_eq_true'] at h2
    obtain ⟨e, he, h3⟩ := h2
    rw [Bool.and_eq_true] at h3
    have h4 := hall e he h3.1
    rw [eq_of_beq h3.2] at h4
    rcases Nat.lt_or_ge i listed.size with h' | h'
    · simp [h'] at hl h4; rw [hl] at h4; cases h4
    · simp [Array.getElem?_eq_none h'] at h4

theorem Till_first {i : Nat} {oi : Oper} {v : Value} (hi : ops[i]? = some oi) (hsel : ∀ (j : Nat) (o : Oper) cs b, ops[j]? = some o → o.op ≠ .select cs b)
    (hQ : ∀ c a w, Q (.panic c) (a.put oi.dst v) w → Q (.panic c) a w) (hFi : F i = true) (hw : waitsF md F ops = true) :
    ∀ (fuel : Nat) (listed : Array Bool) (a : Act) (w : World),
      (∀ j oj, ops[j]? = some oj → j ≠ i → listed.getD j true = false → (∀ e ∈ oj.after, Region.binds md e = true → e.on ≠ i) → oi.apart ops oj = true) →
      i ∈ Region.ready md ops listed → YieldsIf P ops S oi v a → S w →
      Till P md ops Q S F fuel (listed.setIfInBounds i true) (a.put oi.dst v) w → Till P md ops Q S F (fuel + 1) listed a w := by
  have his : i < ops.size := (Array.getElem?_eq_some_iff.1 hi).1
  intro fuel
  induction fuel with
  | zero =>
    intro listed a w _ hr hy hS H
    unfold Till
    rw [if_neg (full_not his hFi (mem_ready.1 hr).1)]
    refine ⟨fun h => (by rw [h] at hr; cases hr), fun j hj => ?_⟩
    by_cases hji : j = i
    · subst hji; exact hy.wpOp hi hS ⟨hS, H⟩
    · have := ready_mono hj hji
      rw [H.1] at this
      cases this
  | succ fuel ih =>
    intro listed a w hfree hr hy hS H
    unfold Till
    rw [if_neg (full_not his hFi (mem_ready.1 hr).1)]
    refine ⟨fun h => (by rw [h] at hr; cases hr), fun j hj => ?_⟩
    by_cases hji : j = i
    · subst hji; exact hy.wpOp hi hS ⟨hS, H⟩
    · have hFj := waits_spec hw hj his hFi (mem_ready.1 hr).1
      have hjr := ready_mono hj hji
      have hjs : j < ops.size := by
        obtain ⟨_, oj, hoj, _⟩ := mem_ready.1 hj
        exact (Array.getElem?_eq_some_iff.1 hoj).1
      unfold Till at H
      rw [if_neg (full_not hjs hFj (mem_ready.1 hjr).1)] at H
      have h1 := H.2 j hjr
      obtain ⟨hjun, oj, hoj, hall⟩ := mem_ready.1 hj
      have hnot : ∀ e ∈ oj.after, Region.binds md e = true → e.on ≠ i := fun e he hb heq => by
        have h1 := hall e he hb
        have h0 := (mem_ready.1 hr).1
        rw [heq] at h1
        rcases Nat.lt_or_ge i listed.size with h' | h'
        · simp [h'] at h0 h1; rw [h0] at h1; cases h1
        · simp [Array.getElem?_eq_none h'] at h1
      have h2 := wpOp_putIf hoj (hfree j oj hoj hji hjun hnot) (fun cs b => hsel i oi cs b hi) (fun cs b => hsel j oj cs b hoj) hQ hy h1
      have hfree' : ∀ k ok, ops[k]? = some ok → k ≠ i → (listed.setIfInBounds j true).getD k true = false →
          (∀ e ∈ ok.after, Region.binds md e = true → e.on ≠ i) → oi.apart ops ok = true := fun k ok hk hki hun hno => by
        refine hfree k ok hk hki ?_ hno
        by_cases hjk : j = k
        · subst hjk; exact hjun
        · rw [getD_set_ne true hjk] at hun; exact hun
      refine wpOp_mono (fun a' w' h3 => ⟨h3.2.1, ih (listed.setIfInBounds j true) a' w' hfree' (ready_mono hr (Ne.symm hji)) h3.1 h3.2.1 ?_⟩) h2
      rw [Array.setIfInBounds_comm _ _ hji]
      exact h3.2.2
theorem Till_take {i : Nat} {oi : Oper} {v : Value} {fuel : Nat} {listed : Array Bool} {a : Act} {w : World} (hi : ops[i]? = some oi)
    (hs : Region.noSelect ops = true) (hf : Region.free md ops listed i = true) (hr : (Region.ready md ops listed).contains i = true)
    (hQ : ∀ c a w, Q (.panic c) (a.put oi.dst v) w → Q (.panic c) a w) (hFi : F i = true) (hw : waitsF md F ops = true) (hy : YieldsIf P ops S oi v a) (hS : S w)
    (h : Till P md ops Q S F fuel (listed.setIfInBounds i true) (a.put oi.dst v) w) : Till P md ops Q S F (fuel + 1) listed a w :=
  Till_first hi (Region.noSelect_spec hs) hQ hFi hw fuel listed a w (Region.free_spec hi hf) (by simpa using hr) hy hS h
/-- Each of the operations 'rs' comes up next. -/
def AllReadyT (P : Program) (md : Region.Mode) (ops : Array Oper) (Q : Exit → Act → World → Prop) (S : World → Prop) (F : Nat → Bool) (fuel : Nat) (listed : Array Bool) (a : Act) (w : World) (rs : List Nat) : Prop :=
  ∀ i ∈ rs, wpOp P ops Q i (fun a' w' => S w' ∧ Till P md ops Q S F fuel (listed.setIfInBounds i true) a' w') a w
theorem AllReadyT.nil {fuel : Nat} {listed : Array Bool} {a : Act} {w : World} : AllReadyT P md ops Q S F fuel listed a w [] := fun _ h => by cases h
theorem AllReadyT.cons {fuel : Nat} {listed : Array Bool} {a : Act} {w : World} {i : Nat} {o : Oper} {rs : List Nat} (ho : ops[i]? = some o)
    (h : ∀ K' : Act → World → Prop, Shut (∀ a w, S w → (S w → Till P md ops Q S F fuel (listed.setIfInBounds i true) a w) → K' a w) → if Region.wanted o (yielded ops a.tmps) = true then Oper.wp P o a w K' Q else K' (a.put o.dst undef) w)
    (hs : AllReadyT P md ops Q S F fuel listed a w rs) : AllReadyT P md ops Q S F fuel listed a w (i :: rs) := fun j hj => by
  rcases List.mem_cons.1 hj with rfl | hj
  · exact wpOp_step ho (fun K' hK => h K' (fun a w hS hW => hK a w ⟨hS, hW hS⟩))
  · exact hs j hj
theorem Till_ready {rs : List Nat} {fuel : Nat} {listed : Array Bool} {a : Act} {w : World} (hn : fullF F ops listed = false) (hr : Region.ready md ops listed = rs) (hne : rs ≠ [])
    (h : AllReadyT P md ops Q S F fuel listed a w rs) : Till P md ops Q S F (fuel + 1) listed a w := by
  unfold Till
  rw [if_neg (by rw [hn]; simp)]
  exact ⟨fun h0 => absurd (hr ▸ h0) hne, hr ▸ h⟩
/-- The first part has come up; the rest goes under no condition. -/
theorem Till_turn {fuel : Nat} {listed : Array Bool} {a : Act} {w : World} (hf : fullF F ops listed = true) (h : wpAnyH P md ops Q (fun _ => True) fuel listed a w) : Till P md ops Q S F fuel listed a w :=
  till_of_any hf (wpAny_of_held _ _ _ _ h)
/-- The beginning. -/
theorem wp_region_till {id : Nat} {a : Act} {w : World} (F : Nat → Bool) (hm : P.follows .mixedOrders = true) (hS : S w.drew)
    (h : S w.drew → Till P .any ops Q S F ops.size (Array.replicate ops.size false) a w.drew) : (Code.region id ops true).wp P Q a w :=
  wp_region_any hm (wpAny_of_till _ _ _ _ (h hS))
end
/-- An append of a drawn region: the new row, and where it lies. -/
theorem wp_append_at {P : Program} {w : World} {o : Oper} {a : Act} {K : Act → World → Prop} {Q : Exit → Act → World → Prop} (s x : Operand) (t : TypeId)
    (ho : o.op = .call { callee := .builtin .append, args := #[s, x], argTypes := #[t, t] })
    (base : Nat) (e : TypeId) (i : TypeInfo) (z : Value) (size bytes : Nat) (ht : P.underlying t = some (.slice e)) (hi : P.info? e = some i) (hz : i.zero = some z)
    (hsize : i.size = size) (hby : i.bytes = bytes) (hzs : z.cells.size = size) (hsz : 0 < size)
    (v : Value) (n : Nat) (xs : List Value) (hs : a.eval s = v) (hown : w.ownsRow base e size v n xs)
    (ad : Addr) (m c : Nat) (news : List Value) (hx : a.eval x = .slice (some ad) m c) (hl : news.length = m * size) (hnews : ∀ j u, news[j]? = some u → w.cell? (ad.add j) = some u) (h1 : ∀ u ∈ news, u.oneCell' = true)
    (h63 : n + m ≤ maxLen) (hbytes : (n + m) * bytes ≤ 140737488355328) (hbase : base ≤ w.heap.size)
    (h : ∀ v' w', w'.ownsRow base e size v' (n + m) (xs ++ news) → w.grownBy w' v.ownBlock → (v'.ownBlock = v.ownBlock ∨ v'.ownBlock = some w.heap.size) → K (a.put o.dst v') w') : o.wp P a w K Q := by
  obtain ⟨v', w', hr, h2, h3, _, h5⟩ := run_append_own_at (P := P) w base t o.type e i z size bytes ht hi hz hsize hby hzs hsz v n xs hown ad m c news hl hnews h1 h63 hbytes hbase
  unfold Oper.wp execOp
  simp only [ho, resolve, invoke, builtin, Sem.run_bind, Sem.run_pure, Result.andThen_ok, List.map_toArray, List.map_cons, List.map_nil, hs, hx, hr]
  exact h v' w' h2 h3 h5
end
end Go.Proofs.YtajlibegalbbmaaDoor
