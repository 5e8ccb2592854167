/- Rows of digits that are the call's own: made, appended to. -/
import Derived.Test.YthpibilefdmemaaDoorNumMem
import Derived.OwnWalk
import Derived.Laws.AppendOwnNone
namespace Go.Proofs.YthpibilefdmemaaDoor
open Go.RowKit

theorem info32 : (Tryd.prog.info? 81).map (fun i => (i.zero, i.size, i.bytes)) = some (some (.int .u32 0), 1, 4) := by kernel_rfl

/-- A slice of digits that is the call's own. -/
def OwnD (w : World) (base : Nat) (v : Value) (ds : List Nat) : Prop := w.ownsRow base 81 1 v ds.length (dcells .u32 ds)

theorem own_slice {w : World} {base : Nat} {e : TypeId} {size : Nat} {v : Value} {n : Nat} {xs : List Value} (h : w.ownsRow base e size v n xs) : ∃ va vc, v = .slice va n vc := by
  rcases h.2 with ⟨hv, h0⟩ | ⟨g, c, cur, hv, _⟩
  · exact ⟨none, 0, by rw [hv, h0]⟩
  · exact ⟨_, _, hv⟩
theorem own_base {w : World} {base base' : Nat} {e : TypeId} {size : Nat} {v : Value} {n : Nat} {xs : List Value} (h : w.ownsRow base e size v n xs) (hb : base' ≤ base) : w.ownsRow base' e size v n xs := by
  refine ⟨h.1, ?_⟩
  rcases h.2 with h | ⟨g, cap, cur, hv, hg, rest⟩
  · exact .inl h
  · exact .inr ⟨g, cap, cur, hv, Nat.le_trans hb hg, rest⟩
theorem add_plain (b o i : Nat) : (⟨b, o, none⟩ : Addr).add i = ⟨b, o + i, none⟩ := by unfold Addr.add; split <;> simp_all

theorem own_dg {k : IntKind} {e : TypeId} {w : World} {base : Nat} {a : Option Addr} {c : Nat} {ds : List Nat} (h : w.ownsRow base e 1 (.slice a ds.length c) ds.length (dcells k ds)) : Dg k w a ds ∧ Fit a ds.length c := by
  refine ⟨?_, ?_⟩
  · intro hn
    rcases h.2 with ⟨_, h0⟩ | ⟨g, c', cur, hv, hb, hg, hle, hmx, hsz, htk⟩
    · omega
    · injection hv with hv
      subst hv
      refine ⟨g, 0, rfl, fun i hi => ?_⟩
      have := h.cells (g := g) rfl i (.int k (ds[i] : Int)) (by simp [dcells, List.getElem?_eq_getElem hi])
      rw [add_plain] at this
      exact this
  · rcases h.2 with ⟨hv, h0⟩ | ⟨g, c', cur, hv, hb, hg, hle, _⟩
    · injection hv with ha hn hc
      subst ha hc
      exact ⟨by omega, fun _ => rfl⟩
    · injection hv with ha _ hc
      subst ha hc
      exact ⟨hle, fun h => by cases h⟩

theorem OwnD.nil (w : World) (base : Nat) : OwnD w base (.slice none 0 0) [] := ⟨rfl, .inl ⟨rfl, rfl⟩⟩
theorem OwnD.alloc {w : World} {base : Nat} {v : Value} {ds : List Nat} (h : OwnD w base v ds) (o : Obj) : OwnD (w.alloc o) base v ds := World.ownsRow.alloc h o
theorem OwnD.below {w w' : World} {base : Nat} {v : Value} {ds : List Nat} (h : OwnD w base v ds) (hb : Below w.heap.size w w') : OwnD w' base v ds :=
  h.kept (row := none) ⟨hb.os, hb.tape, hb.output, hb.size, fun i hi _ => hb.block i hi⟩ (by cases v.ownBlock <;> simp)

theorem wpList_make_dig {w : World} {ops : Array Oper} {rest : List Oper} {o : Oper} {a : Act} {Q : Exit → Act → World → Prop} (hgd : o.guard = none) (l c : Operand) (ho : o.op = Op.makeSlice 22 l c)
    (C : Int) (n : Nat) (hl : a.eval l = .int .i64 0) (hc : a.eval c = .int .i64 C) (hC : C = (n : Int)) (hn : n ≤ 2199023255552)
    (hK : ∀ w' v, OwnD w' w.heap.size v [] → Below w.heap.size w w' → wpList Tryd.prog ops Q rest (a.put o.dst v) w') : wpList Tryd.prog ops Q (o :: rest) a w := by
  obtain ⟨i0, hi0, hz0, hz1, hz2⟩ := info_parts info32
  refine wpList_make_own w hgd l c 22 ho w.heap.size 81 i0 (.int .u32 0) 1 Tryd.underlying22 hi0 hz0 hz1 .i64 .i64 C n hl hc hC (by rw [hz2]; omega) (by unfold maxLen; omega) (Nat.le_refl _) (fun w' h1 h2 => hK w' _ h1 (below_of_grown h2 (fun g h => by cases h) (Nat.le_refl _)))

theorem wpList_append_dig {w : World} {ops : Array Oper} {rest : List Oper} {o : Oper} {a : Act} {Q : Exit → Act → World → Prop} (hgd : o.guard = none) (s x : Operand)
    (ho : o.op = .call { callee := .builtin .append, args := #[s, x], argTypes := #[22, 22] })
    (base : Nat) (v : Value) (ds : List Nat) (hs : a.eval s = v) (hown : OwnD w base v ds) (ad : Addr) (d : Nat) (hx : a.eval x = .slice (some ad) 1 1) (hc : w.cell? (ad.add 0) = some (.int .u32 (d : Int)))
    (hlen : ds.length + 1 ≤ 2199023255552) (hbase : base ≤ w.heap.size)
    (h : ∀ v' w', OwnD w' base v' (ds ++ [d]) → Below base w w' → wpList Tryd.prog ops Q rest (a.put o.dst v') w') : wpList Tryd.prog ops Q (o :: rest) a w := by
  obtain ⟨i0, hi0, hz0, hz1, hz2⟩ := info_parts info32
  have hnews : ∀ j u, (dcells .u32 [d])[j]? = some u → w.cell? (ad.add j) = some u := by
    intro j u hj
    rcases j with _ | j
    · simp [dcells] at hj; rw [hc, hj]
    · simp [dcells] at hj
  refine wpList_append_own w hgd s x 22 ho base 81 i0 (.int .u32 0) 1 4 Tryd.underlying22 hi0 hz0 hz1 hz2 rfl (by decide) v ds.length (dcells .u32 ds) hs hown ad 1 1 (dcells .u32 [d]) hx rfl hnews (dcells_one _ _) (by unfold maxLen; omega) (by omega) hbase (fun v' w' h2 h3 _ => ?_)
  refine h v' w' ?_ (below_of_grown h3 (fun g hg => (World.ownsRow.lt hown g hg).1) hbase)
  unfold OwnD
  rw [dcells_app, List.length_append]
  exact h2

/-- 'append(v, x...)', v the call's own, x nil or not. -/
theorem wpList_append_src {w : World} {ops : Array Oper} {rest : List Oper} {o : Oper} {a : Act} {Q : Exit → Act → World → Prop} (hgd : o.guard = none) (s x : Operand)
    (ho : o.op = .call { callee := .builtin .append, args := #[s, x], argTypes := #[22, 22] })
    (base : Nat) (v : Value) (ds : List Nat) (hs : a.eval s = v) (hown : OwnD w base v ds) (A : Option Addr) (c : Nat) (es : List Nat) (hx : a.eval x = .slice A es.length c) (hfit : Fit A es.length c) (hd : Dg .u32 w A es)
    (hlen : ds.length + es.length ≤ 2199023255552) (hbase : base ≤ w.heap.size)
    (h : ∀ v' w', OwnD w' base v' (ds ++ es) → Below base w w' → wpList Tryd.prog ops Q rest (a.put o.dst v') w') : wpList Tryd.prog ops Q (o :: rest) a w := by
  obtain ⟨i0, hi0, hz0, hz1, hz2⟩ := info_parts info32
  cases A with
  | none =>
    obtain ⟨h1, h2⟩ := hfit
    have hc := h2 rfl
    subst hc
    obtain rfl : es = [] := List.eq_nil_of_length_eq_zero (by omega)
    exact wpList_append_own_none hgd s x 22 ho base 81 i0 1 Tryd.underlying22 hi0 v ds.length (dcells .u32 ds) hs hown hx (h v w (by simpa using hown) (Below.refl _ _))
  | some ad =>
    have hnews : ∀ j u, (dcells .u32 es)[j]? = some u → w.cell? (ad.add j) = some u := by
      intro j u hj
      have hjl : j < es.length := by
        have := (List.getElem?_eq_some_iff.1 hj).1
        rwa [dcells_len] at this
      obtain ⟨b, off, e, hc⟩ := hd (by omega)
      obtain rfl : ad = ⟨b, off, none⟩ := Option.some.inj e
      rw [add_plain, hc j hjl]
      unfold dcells at hj
      rw [List.getElem?_map, List.getElem?_eq_getElem hjl] at hj
      exact hj
    refine wpList_append_own w hgd s x 22 ho base 81 i0 (.int .u32 0) 1 4 Tryd.underlying22 hi0 hz0 hz1 hz2 rfl (by decide) v ds.length (dcells .u32 ds) hs hown ad es.length c (dcells .u32 es) hx (by rw [dcells_len]; omega) hnews (dcells_one _ _) (by unfold maxLen; omega) (by omega) hbase (fun v' w' h2 h3 _ => ?_)
    refine h v' w' ?_ (below_of_grown h3 (fun g hg => (World.ownsRow.lt hown g hg).1) hbase)
    unfold OwnD
    rw [dcells_app, List.length_append]
    exact h2

/-- What a function leaves that computes digits: of the number n, at most L of them. -/
def DigPost (w : World) (n L : Nat) (e : Ending) (w' : World) : Prop :=
  ∃ a cap ds, e = .returned (.slice a ds.length cap) ∧ Fit a ds.length cap ∧ Dg .u32 w' a ds ∧ Digs BB ds ∧ val BB ds = n ∧ ds.length ≤ L ∧ Below w.heap.size w w'
end Go.Proofs.YthpibilefdmemaaDoor
