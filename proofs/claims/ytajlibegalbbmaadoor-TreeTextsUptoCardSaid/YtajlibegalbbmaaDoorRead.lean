/- token.Read, by its contract. -/
import Derived.Test.YtajlibegalbbmaaDoorWay
import Derived.Test.YtajlibegalbbmaaDoorLex
namespace Go.Proofs.YtajlibegalbbmaaDoor
open Go.RowKit

/-- The cells of tokens. -/
def tokCells (l : List (Nat × List UInt8 × Nat)) : List Value := l.flatMap fun x => [.int .i64 (x.1 : Int), .string ⟨x.2.1.toArray⟩, .int .i64 (x.2.2 : Int)]

def faultAgg (c a : Int) : Value := .agg #[.int .i64 c, .int .i64 a]

/-- What token.Read leaves. -/
def ReadPost (w : World) (most : Int) (bs : List UInt8) (e : Ending) (w' : World) : Prop :=
  Below w.heap.size w w' ∧
  if max most 0 < (bs.length : Int) then e = .returned (.tuple #[.slice none 0 0, faultAgg 4 (max most 0)])
  else match lex bs with
    | .error a => e = .returned (.tuple #[.slice none 0 0, faultAgg 10 (a : Int)])
    | .ok toks => ∃ v, e = .returned (.tuple #[v, faultAgg 0 0]) ∧ w'.ownsRow w.heap.size 23 3 v toks.length (tokCells toks)

structure Lp (w : World) (g4 g5 R : Nat) (ta : Option Addr) (cap : Nat) (bs : List UInt8) (p : Nat) (toks : List (Nat × List UInt8 × Nat)) (v : Value) (wr : World) : Prop where
  rd : Rd wr R ta cap bs p
  own : wr.ownsRow (R + 1) 23 3 v toks.length (tokCells toks)
  b4 : Blk wr g4 28 #[v]
  b5 : Blk wr g5 31 #[.int .i64 0, .int .i64 0]
  below : Below g4 w wr
  tx : Txt wr g4 ta bs

theorem Txt.more {w : World} {B B' : Nat} {ta : Option Addr} {bs : List UInt8} (h : Txt w B ta bs) (hB : B ≤ B') : Txt w B' ta bs := by
  intro hn
  obtain ⟨b, off, e, hb, hc⟩ := h hn
  exact ⟨b, off, e, by omega, hc⟩

section
variable {w wr w' : World} {g4 g5 R : Nat} {ta : Option Addr} {cap : Nat} {bs : List UInt8} {p : Nat} {toks : List (Nat × List UInt8 × Nat)} {v : Value}
theorem Lp.after (s : Lp w g4 g5 R ta cap bs p toks v wr) (h4 : g4 < g5) (h5 : g5 < R) {q : Nat} (hr : Rd w' R ta cap bs q) (hg : wr.grownBy w' (some R)) : Lp w g4 g5 R ta cap bs q toks v w' :=
  ⟨hr, s.own.kept hg (by
      cases ho : v.ownBlock with
      | none => exact .inl rfl
      | some k => right; have := (s.own.lt k ho).1; simp; omega),
    s.b4.grown hg (by simp; omega), s.b5.grown hg (by simp; omega), s.below.grown hg (by have := s.b4.lt; omega) (fun k hk => by injection hk with hk; omega), s.tx.keep fun k hk => hg.block k (by have := s.b4.lt; omega) (by simp; omega)⟩
theorem Lp.facts (s : Lp w g4 g5 R ta cap bs p toks v wr) : wr.cell? ⟨R, 0, none⟩ = some (.slice ta bs.length cap) ∧ wr.cell? ⟨R, 1, none⟩ = some (.int .i64 (p : Int)) ∧ wr.cell? ⟨g4, 0, none⟩ = some v ∧ wr.frozen? ⟨g4, 0, none⟩ = false ∧
    wr.cell? ⟨g5, 0, none⟩ = some (.int .i64 0) ∧ wr.cell? ⟨g5, 1, none⟩ = some (.int .i64 0) ∧ wr.frozen? ⟨g5, 0, none⟩ = false ∧ wr.frozen? ⟨g5, 1, none⟩ = false :=
  ⟨s.rd.cell0, s.rd.cell1, s.b4.cell 0, s.b4.frozen 0, s.b5.cell 0, s.b5.cell 1, s.b5.frozen 0, s.b5.frozen 1⟩
end

theorem own_base {w : World} {base base' : Nat} {e : TypeId} {size : Nat} {v : Value} {n : Nat} {xs : List Value} (h : w.ownsRow base e size v n xs) (hb : base' ≤ base) : w.ownsRow base' e size v n xs := by
  refine ⟨h.1, ?_⟩
  rcases h.2 with h | ⟨g, cap, cur, hv, hg, rest⟩
  · exact .inl h
  · exact .inr ⟨g, cap, cur, hv, Nat.le_trans hb hg, rest⟩

theorem new_cells (W : World) (t : TypeId) (l : List Value) (g : Nat) (hg : g = W.heap.size) : ∀ j u, l[j]? = some u → (W.alloc (.cells l.toArray t)).cell? ((⟨g, 0, none⟩ : Addr).add j) = some u := by
  intro j u hj
  subst hg
  have e : (⟨W.heap.size, 0, none⟩ : Addr).add j = ⟨W.heap.size, j, none⟩ := by unfold Addr.add; split <;> simp_all
  rw [e, (Blk.new W t l.toArray).cell j]
  simpa using hj
theorem grown_of_alloc {w w' : World} {o : Obj} {row : Option Nat} (h : (w.alloc o).grownBy w' row) : w.grownBy w' row :=
  ⟨h.os, h.tape, h.output, Nat.le_trans (by simp) h.size, fun i hi hne => (h.block i (by simp; omega) hne).trans (Below.heap_alloc w o i hi)⟩

theorem Lp.put {w wr w2 : World} {g4 g5 R : Nat} {ta : Option Addr} {cap : Nat} {bs : List UInt8} {p : Nat} {toks toks' : List (Nat × List UInt8 × Nat)} {v v' : Value} (s : Lp w g4 g5 R ta cap bs p toks v wr) (h4 : g4 < g5) (h5 : g5 < R)
    (hg : wr.grownBy w2 v.ownBlock) (hown : w2.ownsRow (R + 1) 23 3 v' toks'.length (tokCells toks')) : Lp w g4 g5 R ta cap bs p toks' v' (w2.setCell ⟨g4, 0, none⟩ v') := by
  have hrow : ∀ k, v.ownBlock = some k → R + 1 ≤ k := fun k hk => (s.own.lt k hk).1
  have hne : ∀ i, i ≤ R → some i ≠ v.ownBlock := fun i hi e => by have := hrow i e.symm; omega
  have hlR := s.rd.lt
  have hl4 := s.b4.lt
  have tx : Txt (w2.setCell ⟨g4, 0, none⟩ v') g4 ta bs := s.tx.keep fun k hk => (Below.heap_setCell w2 _ _ k (by simp; omega)).trans (hg.block k (by omega) (hne k (by omega)))
  have rb : (w2.setCell ⟨g4, 0, none⟩ v').heap[R]? = wr.heap[R]? := (Below.heap_setCell w2 _ _ R (by simp; omega)).trans (hg.block R hlR (hne R (Nat.le_refl _)))
  refine ⟨⟨rb.trans s.rd.blk, tx.more (by omega), s.rd.le, s.rd.fit, s.rd.top⟩, ownsRow_setCell_below hown (by simp; omega) _, ?_, ?_, ?_, tx⟩
  · have := (s.b4.grown hg (hne _ (by omega))).set_ 0 v'
    simpa using this
  · exact (s.b5.grown hg (hne _ (by omega))).far (by simp; omega) _
  · exact (s.below.grown hg (by have := s.b4.lt; omega) (fun k hk => by have := hrow k hk; omega)).setCell (p := ⟨g4, 0, none⟩) (Nat.le_refl _) _

theorem infoTok : (Tryd.prog.info? 23).map (fun i => (i.zero, i.size, i.bytes)) = some (some (.agg #[.int .i64 0, .string ⟨#[]⟩, .int .i64 0]), 3, 32) := by kernel_rfl

theorem tokCells_snoc (l : List (Nat × List UInt8 × Nat)) (k a : Nat) (t : List UInt8) : tokCells (l ++ [(k, t, a)]) = tokCells l ++ [.int .i64 (k : Int), .string ⟨t.toArray⟩, .int .i64 (a : Int)] := by
  simp [tokCells]

theorem lex_end {bs : List UInt8} {p f : Nat} {toks : List (Nat × List UInt8 × Nat)} (hp : bs.length ≤ p) (hx : lexOn toks (lexFrom bs f p) = lex bs) : lex bs = .ok toks := by
  rw [← hx]
  cases f with
  | zero => simp [lexFrom, lexOn]
  | succ f =>
    rw [lexFrom, if_neg (by omega)]
    simp [lexOn]
theorem lex_bad {bs : List UInt8} {p f o : Nat} {toks : List (Nat × List UInt8 × Nat)} (hp : p < bs.length) (hf : bs.length < f + p) (hT : tokT (bs.drop p) = .error o) (hx : lexOn toks (lexFrom bs f p) = lex bs) : lex bs = .error (p + o) := by
  rw [← hx]
  cases f with
  | zero => omega
  | succ f => rw [lexFrom, if_pos hp, hT]; rfl
theorem lex_more {bs : List UInt8} {p f k n : Nat} {t : List UInt8} {toks : List (Nat × List UInt8 × Nat)} (hp : p < bs.length) (hf : bs.length < f + p) (hT : tokT (bs.drop p) = .ok (k, t, n)) (hx : lexOn toks (lexFrom bs f p) = lex bs) :
    ∃ f', bs.length < f' + (p + n + skipS false (bs.drop (p + n))) ∧ lexOn (toks ++ [(k, t, p)]) (lexFrom bs f' (p + n + skipS false (bs.drop (p + n)))) = lex bs := by
  have hn := tok_pos hT
  rw [← hx]
  cases f with
  | zero => omega
  | succ f =>
    refine ⟨f, by omega, ?_⟩
    conv => rhs; rw [lexFrom, if_pos hp, hT]
    simp only
    cases lexFrom bs f (p + n + skipS false (bs.drop (p + n))) <;> simp [lexOn]

def LoopRel (w : World) (g4 g5 R : Nat) (ta : Option Addr) (cap : Nat) (bs : List UInt8) (k : Nat) (wr : World) : Prop :=
  ∃ p f toks v, Lp w g4 g5 R ta cap bs p toks v wr ∧ toks.length ≤ p ∧ bs.length < f + p ∧ lexOn toks (lexFrom bs f p) = lex bs ∧ k = bs.length - p

set_option maxRecDepth 100000 in
set_option maxHeartbeats 1600000 in
theorem read_any (w : World) (ta : Option Addr) (cap : Nat) (bs : List UInt8) (most : Int) (ht : Txt w w.heap.size ta bs) (hfit : bs.length ≤ cap) (hsm : bs.length ≤ 16777216) :
    Calls Tryd.prog 11 #[.slice ta bs.length cap, .int .i64 most] w (ReadPost w most bs) := by
  have hmf := mk_func
  generalize hP : ReadPost w most bs = Post
  have HP := hide hP
  clear hP
  by_cases hlim : max most 0 < (bs.length : Int)
  · go_enter_defers Tryd.func11, Tryd.ntmps11
    go_wp2_with fail
    have hPost : Post (.returned (.tuple #[.slice none 0 0, faultAgg 4 (max most 0)])) ((w.alloc (.cells #[.slice none 0 0] 28)).alloc (.cells #[.int .i64 4, .int .i64 (max most 0)] 31)) := by
      rw [← HP.out]
      refine ⟨((Below.refl _ _).alloc (Nat.le_refl _) _).alloc (by simp) _, ?_⟩
      rw [if_pos hlim]
    simp [bodyPostD, Leaves, results, Tryd.results11, go_sem]
    exact hPost
  · go_enter_defers Tryd.func11, Tryd.ntmps11
    go_wp2_with fail
    have lp : Lp w w.heap.size (w.heap.size + 1) (w.heap.size + 1 + 1) ta cap bs 0 [] (.slice none 0 0) (((w.alloc (.cells #[.slice none 0 0] 28)).alloc (.cells #[.int .i64 0, .int .i64 0] 31)).alloc (.cells #[.slice ta bs.length cap, .int .i64 0] 58)) := by
      refine ⟨⟨?_, ?_, Nat.zero_le _, hfit, by omega⟩, World.ownsRow_nil _ _ _ _, ((Blk.new w _ _).alloc _).alloc _, ?_, (((Below.refl _ _).alloc (Nat.le_refl _) _).alloc (by simp) _).alloc (by simp; omega) _, ?_⟩
      · have := heap_alloc_new ((w.alloc (.cells #[.slice none 0 0] 28)).alloc (.cells #[.int .i64 0, .int .i64 0] 31)) (.cells #[.slice ta bs.length cap, .int .i64 0] 58)
        simpa using this
      · intro hn
        obtain ⟨b, off, e, hb, hc⟩ := ht hn
        have hB : Below w.heap.size w (((w.alloc (.cells #[.slice none 0 0] 28)).alloc (.cells #[.int .i64 0, .int .i64 0] 31)).alloc (.cells #[.slice ta bs.length cap, .int .i64 0] 58)) := (((Below.refl _ _).alloc (Nat.le_refl _) _).alloc (by simp) _).alloc (by simp; omega) _
        exact ⟨b, off, e, by omega, fun i hi => (hB.cell (by simpa using hb)).trans (hc i hi)⟩
      · have := (Blk.new (w.alloc (.cells #[.slice none 0 0] 28)) 31 #[.int .i64 0, .int .i64 0]).alloc (.cells #[.slice ta bs.length cap, .int .i64 0] 58)
        simpa using this
      · exact ht.keep fun k hk => (((((Below.refl w.heap.size w).alloc (Nat.le_refl _) _).alloc (by simp) _).alloc (by simp; omega) _).block k hk)
    generalize hW : (((w.alloc (.cells #[.slice none 0 0] 28)).alloc (.cells #[.int .i64 0, .int .i64 0] 31)).alloc (.cells #[.slice ta bs.length cap, .int .i64 0] 58)) = W0 at lp ⊢
    clear hW
    generalize hg4 : w.heap.size = g4 at lp ⊢
    have h45 : g4 < g4 + 1 := by omega
    generalize hg5 : g4 + 1 = g5 at lp h45 ⊢
    have h5R : g5 < g5 + 1 := by omega
    generalize hR : g5 + 1 = R at lp h5R ⊢
    have H4 := hide hg4
    clear hg4 hg5 hR
    refine (blanks_any lp.rd).mono ?_
    rintro e w1 ⟨rfl, hr, hg⟩
    have lp1 := lp.after h45 h5R hr hg
    clear hr hg lp
    rw [List.drop_zero, Nat.zero_add] at lp1
    go_wp2_with fail
    go_loopg [] (bs.length - skipS false bs) (fun k wr => LoopRel w g4 g5 R ta cap bs k wr)
    case atStart => exact ⟨_, bs.length + 1, [], _, lp1, by simp, by omega, by unfold lex lexOn; split <;> simp_all, rfl⟩
    case round =>
      obtain ⟨p, f, toks, v, s, htl, hfl, hlx, hk⟩ := hrel
      have HK := hide hk
      have HX := hide hlx
      clear hk hlx lp1
      have hle := s.rd.le
      obtain ⟨ao, vc, rfl⟩ : ∃ ao vc, v = .slice ao toks.length vc := by
        rcases s.own.2 with ⟨hv, h0⟩ | ⟨g, c, cur, hv, _⟩
        · exact ⟨none, 0, by rw [hv, h0]⟩
        · exact ⟨_, _, hv⟩
      obtain ⟨h0, h1, c4, f4, c5, c6, f5, f6⟩ := s.facts
      rcases Nat.lt_or_ge p bs.length with hp | hp
      · obtain ⟨b, off, rfl, hbR, hb⟩ := s.rd.byte hp
        have ht := tok_any s.rd hp
        generalize hc : bs[p] = c at hb ht
        have hE : ∀ (args : Array Value) (w : World), (callFunc (wayF c) args).run Tryd.prog w = .ok (.enter (wayF c) args) w := way_enters c
        have HT := hide ht
        clear ht hc
        go_wp2_with (go_at_call 28; refine (way_any c _ _).mono ?_; rintro e w' ⟨rfl, rfl⟩)
        refine HT.out.mono ?_
        intro e w1 hpost
        cases hr : tokT (bs.drop p) with
        | error o =>
          rw [hr] at hpost
          obtain ⟨hg, rfl⟩ := hpost
          have HR := hide hr
          have b4 := s.b4.grown hg (by simp; omega)
          have b5 := s.b5.grown hg (by simp; omega)
          have hbl : Below g4 w w1 := s.below.grown hg (by have := s.b4.lt; omega) (fun k hk => by injection hk with hk; omega)
          clear hr hg h0 h1 c4 f4 c5 c6 f5 f6 s
          go_wp2_with fail
          refine leaves_cons (f := 26) (args := #[.pointer (some ⟨g4, 0, none⟩), .pointer (some ⟨g5, 0, none⟩)]) (by simp) (by simp [go_sem]) ?_
          refine (catch_panicking g4 g4 g5 (p + o) _ _ _ w1 (b4.cell 0) (b4.frozen 0) (b5.cell 0) (b5.cell 1) (b5.frozen 0) (b5.frozen 1) (Nat.le_refl _) h45 b5.lt).mono ?_
          rintro e u' w2 ⟨rfl, rfl, d4, d5, d6, hB⟩
          have hPost : Post (.returned (.tuple #[.slice none 0 0, faultAgg 10 ((p + o : Nat) : Int)])) w2 := by
            rw [← HP.out]
            refine ⟨by rw [H4.out]; exact hbl.trans hB, ?_⟩
            rw [if_neg (by omega), lex_bad hp hfl HR.out HX.out]
          simp [Leaves, settle, results, Tryd.results11, go_sem, d4, d5, d6]
          simpa [faultAgg] using hPost
        | ok x =>
          obtain ⟨k, t, n⟩ := x
          rw [hr] at hpost
          obtain ⟨hg, rfl, hrd⟩ := hpost
          have hn := tok_pos hr
          obtain ⟨f', hfl', hlx'⟩ := lex_more hp hfl hr HX.out
          have HX' := hide hlx'
          have s1 := s.after h45 h5R hrd hg
          clear hr hrd hg h0 h1 c4 f4 c5 c6 f5 f6 s HX hlx'
          obtain ⟨h0, h1, c4, f4, c5, c6, f5, f6⟩ := s1.facts
          have hl4 := s1.b4.lt
          have hl5 := s1.b5.lt
          have hlR := s1.rd.lt
          have hle1 := s1.rd.le
          obtain ⟨i0, hi, hz0, hz1, hz2⟩ := info_parts infoTok
          unfold tokV
          go_wp2_with (at_builtin; refine wpList_append_own _ rfl _ _ 28 rfl (R + 1) 23 i0 (.agg #[.int .i64 0, .string ⟨#[]⟩, .int .i64 0]) 3 32 Tryd.underlying28 hi hz0 hz1 hz2 rfl (by decide) _ _ _ rfl ((s1.own.alloc _).alloc _) ⟨w1.heap.size + 1, 0, none⟩ 1 1 [.int .i64 (k : Int), .string ⟨t.toArray⟩, .int .i64 (p : Int)] rfl rfl ?c1 ?c2 ?c3 ?c4 ?c5 ?_)
          case c1 => exact new_cells _ _ _ _ (by simp)
          case c2 => intro u hu; simp at hu; rcases hu with rfl | rfl | rfl <;> rfl
          case c3 => unfold maxLen; omega
          case c4 => omega
          case c5 => simp; omega
          intro v' w2 hown' hgrow _
          have hown2 : w2.ownsRow (R + 1) 23 3 v' (toks ++ [(k, t, p)]).length (tokCells (toks ++ [(k, t, p)])) := by
            rw [tokCells_snoc]
            simpa using hown'
          obtain ⟨ao', vc', rfl⟩ : ∃ ao' vc', v' = .slice ao' (toks ++ [(k, t, p)]).length vc' := by
            rcases hown2.2 with ⟨hv, h0⟩ | ⟨g, c, cur, hv, _⟩
            · exact ⟨none, 0, by rw [hv, h0]⟩
            · exact ⟨_, _, hv⟩
          have hgr := grown_of_alloc (grown_of_alloc hgrow)
          have s2 := s1.put h45 h5R hgr hown2
          have d4 : w2.cell? ⟨g4, 0, none⟩ = some (.slice ao toks.length vc) := (s1.b4.grown hgr (fun e => by have := (s1.own.lt _ e.symm).1; omega)).cell 0
          have e4 : w2.frozen? ⟨g4, 0, none⟩ = false := (s1.b4.grown hgr (fun e => by have := (s1.own.lt _ e.symm).1; omega)).frozen 0
          clear hown' hown2 hgrow hgr s1 h0 h1 c4 f4 c5 c6 f5 f6 hl4 hl5 hlR
          generalize hlen : (toks ++ [(k, t, p)]).length = tl at s2
          have hlen' : tl ≤ p + n := by rw [← hlen]; simp; omega
          have HL := hide hlen
          clear hlen
          go_wp2_with fail
          refine (blanks_any s2.rd).mono ?_
          rintro e w3 ⟨rfl, hr, hg⟩
          have s3 := s2.after h45 h5R hr hg
          have hle3 := s3.rd.le
          clear hr hg s2
          go_wp2_with fail
          have hk := HK.out
          go_roundg (bs.length - (p + n + skipS false (bs.drop (p + n))))
          case measure => omega
          case rel => exact ⟨_, f', _, _, s3, by rw [HL.out]; omega, hfl', HX'.out, rfl⟩
      · go_wp2_with fail
        refine leaves_cons (f := 26) (args := #[.pointer (some ⟨g4, 0, none⟩), .pointer (some ⟨g5, 0, none⟩)]) (by simp) (by simp [go_sem]) ?_
        refine (catch_idle g4 g5 _).mono ?_
        rintro e u' w'' ⟨rfl, rfl, rfl⟩
        have hPost : Post (.returned (.tuple #[.slice ao toks.length vc, faultAgg 0 0])) (((wr.setCell ⟨g4, 0, none⟩ (.slice ao toks.length vc)).setCell ⟨g5, 0, none⟩ (.int .i64 0)).setCell ⟨g5, 1, none⟩ (.int .i64 0)) := by
          rw [← HP.out]
          refine ⟨by rw [H4.out]; exact ((s.below.setCell (p := ⟨g4, 0, none⟩) (Nat.le_refl _) _).setCell (p := ⟨g5, 0, none⟩) (by simp; omega) _).setCell (p := ⟨g5, 1, none⟩) (by simp; omega) _, ?_⟩
          rw [if_neg (by omega), lex_end hp HX.out]
          refine ⟨_, rfl, own_base (base := R + 1) ?_ (by rw [H4.out]; omega)⟩
          exact ownsRow_setCell_below (ownsRow_setCell_below (ownsRow_setCell_below s.own (by simp; omega) _) (by simp; omega) _) (by simp; omega) _
        simp [Leaves, settle, results, Tryd.results11, go_sem, c4, c5, c6]
        exact hPost
end Go.Proofs.YtajlibegalbbmaaDoor
