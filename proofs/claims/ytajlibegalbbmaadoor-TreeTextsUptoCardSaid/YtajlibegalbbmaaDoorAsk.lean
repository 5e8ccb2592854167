/- Words for the laws' walks: rows that came in, what both readers tell. -/
import Derived.Test.YtajlibegalbbmaaDoorSpeaks
import Derived.Laws.AppendOwnNone
import Derived.OpenShut
namespace Go.Proofs.YtajlibegalbbmaaDoor
open Go.RowKit

/-- What the walk is told of a slice of integers that came in. -/
def IsRow (k : IntKind) (w : World) (a : Option Addr) (len cap : Nat) (zs : List Int) : Prop :=
  (a = none ∧ len = 0 ∧ cap = 0 ∧ zs = []) ∨
  ∃ x, a = some x ∧ len ≤ cap ∧ cap ≤ maxLen ∧ zs.length = cap ∧ (∀ i, i < zs.length → w.cell? (x.add i) = some (.int k (zs.getD i 0))) ∧ ∀ n ∈ zs, (Lit.int k n).wf = true

theorem spot_none {w : World} {x : Addr} {v : Value} (h : w.cell? x = some v) : x = ⟨x.block, x.off, none⟩ := by
  obtain ⟨b, o, s⟩ := x
  cases s with
  | none => rfl
  | some y =>
    unfold World.cell? at h
    split at h
    · simp at h
    · cases h

theorem add_plain (b o i : Nat) : (⟨b, o, none⟩ : Addr).add i = ⟨b, o + i, none⟩ := by unfold Addr.add; split <;> simp_all

theorem wf_byte {n : Int} (h : (Lit.int .u8 n).wf = true) : 0 ≤ n ∧ n ≤ 255 := by
  have := h
  simp only [Lit.wf, Bool.and_eq_true, decide_eq_true_eq] at this
  exact this

/-- The bytes of a row. -/
def bytesOf (zs : List Int) : List UInt8 := zs.map fun n => UInt8.ofNat n.toNat

theorem byteCells_of {zs : List Int} (h : ∀ n ∈ zs, (Lit.int .u8 n).wf = true) : zs.map (Value.int .u8) = Lib.byteCells (bytesOf zs) := by
  unfold Lib.byteCells bytesOf
  rw [List.map_map]
  apply List.map_congr_left
  intro n hn
  have := wf_byte (h n hn)
  simp
  omega

theorem row_txt {w : World} {a : Option Addr} {len cap : Nat} {zs : List Int} (h : IsRow .u8 w a len cap zs) : ∃ bs : List UInt8, bs.length = len ∧ Txt w w.heap.size a bs ∧ len ≤ cap ∧ cap ≤ maxLen ∧ (a = none ∧ bs = [] ∧ cap = 0 ∨ ∃ x, a = some x ∧ ∀ j u, (Lib.byteCells bs)[j]? = some u → w.cell? (x.add j) = some u) := by
  rcases h with ⟨rfl, rfl, rfl, rfl⟩ | ⟨x, rfl, h1, h2, h3, h4, h5⟩
  · exact ⟨[], rfl, fun h => by simp at h, Nat.le_refl _, Nat.zero_le _, .inl ⟨rfl, rfl, rfl⟩⟩
  · have hw : ∀ n ∈ zs.take len, (Lit.int .u8 n).wf = true := fun n hn => h5 n (List.mem_of_mem_take hn)
    have hb := byteCells_of hw
    have hc : ∀ j u, (Lib.byteCells (bytesOf (zs.take len)))[j]? = some u → w.cell? (x.add j) = some u := by
      intro j u hj
      rw [← hb] at hj
      rw [List.getElem?_map] at hj
      have hjl : j < (zs.take len).length := by
        rcases Nat.lt_or_ge j (zs.take len).length with h' | h'
        · exact h'
        · rw [List.getElem?_eq_none h'] at hj; cases hj
      have hj2 : j < zs.length := by simp at hjl; omega
      rw [List.getElem?_take, if_pos (by simp at hjl; omega), List.getElem?_eq_getElem hj2] at hj
      simp at hj
      rw [h4 j hj2, ← hj]
      simp [List.getD, List.getElem?_eq_getElem hj2]
    refine ⟨bytesOf (zs.take len), by simp [bytesOf]; omega, ?_, h1, h2, .inr ⟨x, rfl, hc⟩⟩
    intro hn
    have h0 := hc 0 _ (List.getElem?_eq_getElem (by rw [Lib.byteCells_length]; exact hn))
    have hx : x = ⟨x.block, x.off, none⟩ := spot_none (by simpa [Addr.add] using h0)
    have hlt := World.block_lt_of_cell? w _ h0
    rw [hx]
    refine ⟨x.block, x.off, rfl, by simpa [Addr.add] using hlt, fun i hi => ?_⟩
    have := hc i (.int .u8 ((bytesOf (zs.take len))[i].toNat : Int)) (by simp [Lib.byteCells, List.getElem?_eq_getElem hi])
    rw [hx] at this
    rw [add_plain] at this
    exact this

theorem own_txt {w : World} {base : Nat} {a : Option Addr} {c : Nat} {bs : List UInt8} (h : w.ownsRow base 5 1 (.slice a bs.length c) bs.length (Lib.byteCells bs)) : Txt w w.heap.size a bs ∧ bs.length ≤ c := by
  refine ⟨?_, ?_⟩
  · intro hn
    rcases h.2 with ⟨_, h0⟩ | ⟨g, c', cur, hv, hb, hg, hle, hmx, hsz, htk⟩
    · omega
    · injection hv with hv
      subst hv
      refine ⟨g, 0, rfl, (Array.getElem?_eq_some_iff.1 hg).1, fun i hi => ?_⟩
      have := h.cells (g := g) rfl i (.int .u8 (bs[i].toNat : Int)) (by simp [Lib.byteCells, List.getElem?_eq_getElem hi])
      have e : (⟨g, 0, none⟩ : Addr).add i = ⟨g, 0 + i, none⟩ := by unfold Addr.add; split <;> simp_all
      rw [e] at this
      exact this
  · rcases h.2 with ⟨hv, h0⟩ | ⟨g, c', cur, hv, hb, hg, hle, _⟩
    · omega
    · injection hv with _ _ hc
      omega

/-- 'append(v, x...)', v the call's own, x nil or not. -/
theorem wpList_append_src {P : Program} {w : World} {ops : Array Oper} {rest : List Oper} {o : Oper} {a : Act} {Q : Exit → Act → World → Prop} (hgd : o.guard = none) (s x : Operand) (t : TypeId)
    (ho : o.op = .call { callee := .builtin .append, args := #[s, x], argTypes := #[t, t] })
    (base : Nat) (e : TypeId) (i : TypeInfo) (z : Value) (size bytes : Nat) (ht : P.underlying t = some (.slice e)) (hi : P.info? e = some i) (hz : i.zero = some z)
    (hsize : i.size = size) (hby : i.bytes = bytes) (hzs : z.cells.size = size) (hsz : 0 < size)
    (v : Value) (n : Nat) (xs : List Value) (hs : a.eval s = v) (hown : w.ownsRow base e size v n xs)
    (A : Option Addr) (m c : Nat) (news : List Value) (hx : a.eval x = .slice A m c) (hlen : news.length = m * size)
    (hsrc : A = none ∧ m = 0 ∧ c = 0 ∨ ∃ ad, A = some ad ∧ ∀ j u, news[j]? = some u → w.cell? (ad.add j) = some u) (h1 : ∀ u ∈ news, u.oneCell' = true)
    (h63 : n + m ≤ maxLen) (hbytes : (n + m) * bytes ≤ 140737488355328) (hbase : base ≤ w.heap.size)
    (h : ∀ v' w', w'.ownsRow base e size v' (n + m) (xs ++ news) → w.grownBy w' v.ownBlock → wpList P ops Q rest (a.put o.dst v') w') : wpList P ops Q (o :: rest) a w := by
  rcases hsrc with ⟨rfl, rfl, rfl⟩ | ⟨ad, rfl, hc⟩
  · obtain rfl : news = [] := List.eq_nil_of_length_eq_zero (by simpa using hlen)
    refine wpList_append_own_none hgd s x t ho base e i size ht hi v n xs hs hown hx (h v w (by simpa using hown) ⟨rfl, rfl, rfl, Nat.le_refl _, fun _ _ _ => rfl⟩)
  · exact wpList_append_own w hgd s x t ho base e i z size bytes ht hi hz hsize hby hzs hsz v n xs hs hown ad m c news hx hlen hc h1 h63 hbytes hbase (fun v' w' h2 h3 _ => h v' w' h2 h3)

/-- What both readers tell: the error's number, its place, the tokens. -/
def resT (most : Int) (bs : List UInt8) : Int × Int × List (Nat × List UInt8 × Nat) :=
  if max most 0 < (bs.length : Int) then (4, max most 0, []) else match lex bs with | .error a => (10, (a : Int), []) | .ok toks => (0, 0, toks)

theorem own_len {w : World} {base : Nat} {e : TypeId} {size : Nat} {v : Value} {n : Nat} {xs : List Value} (h : w.ownsRow base e size v n xs) : n ≤ 9223372036854775807 := by
  rcases h.2 with ⟨_, h0⟩ | ⟨g, c, cur, hv, _, _, hle, hmx, _⟩
  · omega
  · unfold maxLen at hmx; omega
theorem row_nil (w : World) (a : Option Addr) : TokRow w a [] := fun h => by simp at h

theorem own_cap {w : World} {base : Nat} {e : TypeId} {size : Nat} {a : Option Addr} {n c : Nat} {xs : List Value} (h : w.ownsRow base e size (.slice a n c) n xs) : n ≤ c := by
  rcases h.2 with ⟨_, h0⟩ | ⟨g, c', cur, hv, _, _, hle, _⟩
  · omega
  · injection hv with _ _ hc
    omega
theorem read_sum {w w' : World} {most : Int} {bs : List UInt8} {e : Ending} (h : ReadPost w most bs e w') :
    Below w.heap.size w w' ∧ ∃ va vc, e = .returned (.tuple #[.slice va (resT most bs).2.2.length vc, faultAgg (resT most bs).1 (resT most bs).2.1]) ∧ TokRow w' va (resT most bs).2.2 ∧ (resT most bs).2.2.length ≤ 9223372036854775807 ∧ (resT most bs).2.2.length ≤ vc := by
  refine ⟨h.1, ?_⟩
  have h2 := h.2
  unfold resT
  split
  · rename_i hl
    rw [if_pos hl] at h2
    exact ⟨none, 0, h2, row_nil _ _, by simp, by simp⟩
  · rename_i hl
    rw [if_neg hl] at h2
    cases hx : lex bs with
    | error a =>
      rw [hx] at h2
      exact ⟨none, 0, h2, row_nil _ _, by simp, by simp⟩
    | ok toks =>
      rw [hx] at h2
      obtain ⟨v, he, hown⟩ := h2
      obtain ⟨va, vc, rfl⟩ := own_slice hown
      exact ⟨va, vc, he, row_of_own hown rfl, own_len hown, own_cap hown⟩
theorem rread_sum {w w' : World} {most : Int} {bs : List UInt8} {e : Ending} (h : RReadPost w most bs e w') :
    Below w.heap.size w w' ∧ ∃ va vc, e = .returned (.tuple #[.slice va (resT most bs).2.2.length vc, .int .i64 (resT most bs).1, .int .i64 (resT most bs).2.1]) ∧ TokRow w' va (resT most bs).2.2 := by
  refine ⟨h.1, ?_⟩
  have h2 := h.2
  unfold resT
  split
  · rename_i hl
    rw [if_pos hl] at h2
    exact ⟨none, 0, h2, row_nil _ _⟩
  · rename_i hl
    rw [if_neg hl] at h2
    cases hx : lex bs with
    | error a =>
      rw [hx] at h2
      exact ⟨none, 0, h2, row_nil _ _⟩
    | ok toks =>
      rw [hx] at h2
      obtain ⟨v, he, hown⟩ := h2
      obtain ⟨va, vc, rfl⟩ := own_slice hown
      exact ⟨va, vc, he, row_of_own hown rfl⟩

end Go.Proofs.YtajlibegalbbmaaDoor
