/- The lists that tree.Text still has to tell, in memory. -/
import Derived.Test.YtajlibegalbbmaaDoorTWord
import Derived.Test.YtajlibegalbbmaaDoorTBuild
namespace Go.Proofs.YtajlibegalbbmaaDoor
open Go.RowKit

/-- Lists of trees, one behind another. -/
def RepS (w : World) (ok : Nat → Prop) : List (List Tr) → List Value → Prop
  | [], cs => cs = []
  | K :: r, cs => ∃ v ks, cs = v :: ks ∧ RepV w ok K v ∧ RepS w ok r ks
section
variable {w w' : World} {ok : Nat → Prop}
theorem RepS.len : ∀ {l : List (List Tr)} {cs : List Value}, RepS w ok l cs → cs.length = l.length
  | [], cs, h => by simp only [RepS] at h; rw [h]; rfl
  | K :: r, cs, h => by
    simp only [RepS] at h
    obtain ⟨v, ks, rfl, h1, h2⟩ := h
    simp [RepS.len h2]
theorem RepS.far {B : Nat} (hb : Below B w w') (hok : ∀ b, ok b → b < B) : ∀ {l : List (List Tr)} {cs : List Value}, RepS w ok l cs → RepS w' ok l cs
  | [], cs, h => by simp only [RepS] at h ⊢; exact h
  | K :: r, cs, h => by
    simp only [RepS] at h ⊢
    obtain ⟨v, ks, e, h1, h2⟩ := h
    exact ⟨v, ks, e, h1.keep (fun b _ hk => ⟨hk, hb.block b (hok b hk)⟩) hb.size, RepS.far hb hok h2⟩
theorem RepS.snoc : ∀ {l : List (List Tr)} {cs : List Value} {K : List Tr} {v : Value}, RepS w ok l cs → RepV w ok K v → RepS w ok (l ++ [K]) (cs ++ [v])
  | [], cs, K, v, h, k => by simp only [RepS] at h; subst h; simp only [List.nil_append, RepS]; exact ⟨v, [], rfl, k, rfl⟩
  | J :: r, cs, K, v, h, k => by
    simp only [RepS] at h
    obtain ⟨u, ks, rfl, h1, h2⟩ := h
    simp only [List.cons_append, RepS]
    exact ⟨u, ks ++ [v], rfl, h1, RepS.snoc h2 k⟩
theorem RepS.last : ∀ {l : List (List Tr)} {K : List Tr} {cs : List Value}, RepS w ok (l ++ [K]) cs → ∃ xs v, cs = xs ++ [v] ∧ RepS w ok l xs ∧ RepV w ok K v
  | [], K, cs, h => by
    simp only [List.nil_append, RepS] at h
    obtain ⟨v, ks, rfl, h1, rfl⟩ := h
    exact ⟨[], v, rfl, by simp [RepS], h1⟩
  | J :: r, K, cs, h => by
    simp only [List.cons_append, RepS] at h
    obtain ⟨u, ks, rfl, h1, h2⟩ := h
    obtain ⟨xs, v, rfl, k1, k2⟩ := RepS.last h2
    exact ⟨u :: xs, v, rfl, by simp only [RepS]; exact ⟨u, xs, rfl, h1, k1⟩, k2⟩
/-- The list's rest: 's[1:]'. -/
theorem repV_tail {k : Tr} {r : List Tr} {b off cap : Nat} {p : Prop} [Decidable p] (hp : p → cap = 1) (h : RepV w ok (k :: r) (.slice (some ⟨b, off, none⟩) (r.length + 1) cap)) : RepV w ok r (.slice (if p then some ⟨b, off, none⟩ else some ⟨b, off + 5, none⟩) r.length (cap - 1)) := by
  obtain ⟨ka, c, e, h1, h2, h3⟩ := h
  injection e with e1 e2 e3
  subst e1 e3
  simp only [List.length_cons] at h1
  by_cases hp1 : p
  · rw [if_pos hp1]
    have hc := hp hp1
    obtain rfl : r = [] := List.eq_nil_of_length_eq_zero (by omega)
    exact ⟨_, _, rfl, by simp, ⟨Nat.le_trans (Nat.sub_le _ _) h2.1, fun h => by cases h⟩, by simp [RepK]⟩
  · rw [if_neg hp1]
    refine ⟨_, _, rfl, by omega, ⟨Nat.le_trans (Nat.sub_le _ _) h2.1, fun h => by cases h⟩, ?_⟩
    simp only [RepK] at h3
    obtain ⟨b', off', c', ks, ea, g1, g2, g3, g4, g5⟩ := h3
    injection ea with ea
    injection ea with ea1 ea2 _
    subst ea1 ea2
    cases r with
    | nil => simp [RepK]
    | cons t r =>
      simp only [RepL] at g5
      obtain ⟨d, ls, rfl, d1, d2⟩ := g5
      simp only [RepK]
      refine ⟨b, off + 5, d, ls, rfl, g1, g2, fun j u hj => ?_, d1, d2⟩
      have := g3 (5 + j) u (by rw [List.getElem?_append_right (by rw [g4.five]; omega), g4.five, Nat.add_sub_cancel_left]; exact hj)
      rwa [← Nat.add_assoc] at this
end
section
variable {w w' : World} {B b : Nat} {bs : List Value}
theorem builder_keep (h : IsBuilder B b bs w) (hk : ∀ (g : Nat) (cs : Array Value) (t : TypeId), w.heap[g]? = some (Obj.cells cs t (0, 0)) → (t = 5 ∨ t = 65) → w'.heap[g]? = w.heap[g]?) : IsBuilder B b bs w' := by
  have key : ∀ p, BuilderAt B b p bs w → BuilderAt B b p bs w' := by
    rintro p ⟨hB, v, hb, ho, hne⟩
    refine ⟨hB, v, (hk b _ _ hb (.inr rfl)).trans hb, ⟨ho.1, ?_⟩, hne⟩
    rcases ho.2 with h | ⟨g, c, cur, hv, h1, h2, rest⟩
    · exact .inl h
    · exact .inr ⟨g, c, cur, hv, h1, (hk g _ _ h2 (.inl rfl)).trans h2, rest⟩
  rcases h with h | h
  · exact .inl (key _ h)
  · exact .inr (key _ h)
theorem builder_below (h : IsBuilder B b bs w) (hb : Below w.heap.size w w') : IsBuilder B b bs w' := builder_keep h fun g _ _ hg _ => hb.block g (Array.getElem?_eq_some_iff.1 hg).1
theorem own_of_blk {base e size n : Nat} {v : Value} {xs : List Value} {g : Nat} (ho : w.ownsRow base e size v n xs) (hv : v.ownBlock = some g) : ∃ cur, w.heap[g]? = some (Obj.cells cur e (0, 0)) := by
  rcases ho.2 with ⟨h, _⟩ | ⟨k, c, cur, h, _, hk, _⟩
  · rw [h] at hv; cases hv
  · rw [h] at hv
    obtain rfl : k = g := by simpa [Value.ownBlock] using hv
    exact ⟨cur, hk⟩
theorem builder_set {base e size n : Nat} {v : Value} {xs : List Value} {g : Nat} (h : IsBuilder B b bs w) (ho : w.ownsRow base e size v n xs) (hv : v.ownBlock = some g) (h1 : e ≠ 5) (h2 : e ≠ 65) (i : Nat) (u : Value) : IsBuilder B b bs (w.setCell ⟨g, i, none⟩ u) :=
  builder_keep h fun k cs t hk ht => Below.heap_setCell w ⟨g, i, none⟩ u k (by
    rintro rfl
    obtain ⟨cur, hc⟩ := own_of_blk ho hv
    rw [hc] at hk
    injection hk with hk
    injection hk with _ hk _
    subst hk
    rcases ht with h | h
    · exact h1 h
    · exact h2 h)
theorem builder_grown {base e size n : Nat} {v : Value} {xs : List Value} (h : IsBuilder B b bs w) (ho : w.ownsRow base e size v n xs) (h1 : e ≠ 5) (h2 : e ≠ 65) (hg : w.grownBy w' v.ownBlock) : IsBuilder B b bs w' :=
  builder_keep h fun k cs t hk ht => hg.block k (Array.getElem?_eq_some_iff.1 hk).1 (fun e' => by
    obtain ⟨cur, hc⟩ := own_of_blk ho e'.symm
    rw [hc] at hk
    injection hk with hk
    injection hk with _ hk _
    subst hk
    rcases ht with h | h
    · exact h1 h
    · exact h2 h)
end
theorem infoSl : (Tryd.prog.info? 37).map (fun i => (i.zero, i.size, i.bytes)) = some (some (.slice none 0 0), 1, 24) := by kernel_rfl
theorem own_pop1 {w : World} {base : Nat} {e : TypeId} {g n c : Nat} {xs : List Value} {u : Value} (h : w.ownsRow base e 1 (.slice (some ⟨g, 0, none⟩) (n + 1) c) (n + 1) (xs ++ [u])) (hx : xs.length = n) : w.ownsRow base e 1 (.slice (some ⟨g, 0, none⟩) n c) n xs := by
  refine ⟨by omega, ?_⟩
  rcases h.2 with ⟨hv, h0⟩ | ⟨g', c', cur, hv, hb, hg, hle, hmx, hsz, htk⟩
  · omega
  · injection hv with h1 h2 h3
    injection h1 with h1
    injection h1 with h1 _ _
    subst h1 h3
    refine .inr ⟨g, c, cur, rfl, hb, hg, by omega, hmx, hsz, ?_⟩
    have h5 := congrArg (List.take (n * 1)) htk
    rw [List.take_take, Nat.min_eq_left (by omega)] at h5
    rw [h5, List.take_append_of_le_length (by omega), List.take_of_length_le (by omega)]
theorem wgt_snoc : ∀ (l : List (List Tr)) (K : List Tr), wgt (l ++ [K]) = wgt l + (1 + sizes K)
  | [], K => by simp [wgt]
  | J :: l, K => by simp only [List.cons_append, wgt, wgt_snoc l K]; omega
/-- What is known between two steps. -/
structure TxSt (w : World) (g4 T : Nat) (full : Option (List UInt8)) (l : List (List Tr)) (first : Bool) (out : List UInt8) (a : Option Addr) (vc : Nat) (xs : List Value) (wr : World) : Prop where
  bd : IsBuilder w.heap.size g4 (Lib.byteCells out) wr
  own : wr.ownsRow w.heap.size 37 1 (.slice a l.length vc) l.length xs
  rep : RepS wr (fun b => b < w.heap.size) l xs
  bel : Below w.heap.size w wr
  told : toldT full out (restS first l.reverse)
  len : out.length + 10000000 * wgt l ≤ T
  sm : ∀ K ∈ l, SmallL 4000000 K
end Go.Proofs.YtajlibegalbbmaaDoor
