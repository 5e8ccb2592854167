/- The walk of the law TokenJoins. -/
import Derived.Test.YtajlibegalbbmaaDoorWords
namespace Go.Proofs.YtajlibegalbbmaaDoor
open Go.RowKit

/-- Tokens that came in: their kinds may be any numbers. -/
abbrev Tok := Int × List UInt8 × Int
def TokIn (w : World) (B : Nat) (a : Option Addr) (ts : List Tok) : Prop :=
  0 < ts.length → ∃ b off, a = some ⟨b, off, none⟩ ∧ b < B ∧ ∀ i (h : i < ts.length), w.cell? ⟨b, off + i * 3, none⟩ = some (.int .i64 ts[i].1) ∧ w.cell? ⟨b, off + i * 3 + 1, none⟩ = some (.string ⟨ts[i].2.1.toArray⟩) ∧ w.cell? ⟨b, off + i * 3 + 2, none⟩ = some (.int .i64 ts[i].2.2)

/-- The words so far: those of the tokens that have one. -/
def wsT : List Tok → List (Nat × List UInt8 × List UInt8)
  | [] => []
  | x :: r => match wordT x.1 x.2.1 with
    | some s => (x.1.toNat, x.2.1, s) :: wsT r
    | none => wsT r
theorem wsT_snoc (l : List Tok) (x : Tok) : wsT (l ++ [x]) = wsT l ++ match wordT x.1 x.2.1 with | some s => [(x.1.toNat, x.2.1, s)] | none => [] := by
  induction l with
  | nil => simp only [List.nil_append, wsT]
  | cons y l ih =>
    simp only [List.cons_append, wsT, ih]
    cases wordT y.1 y.2.1 <;> simp
theorem wsT_good (l : List Tok) : GoodW (wsT l) := by
  induction l with
  | nil => intro x hx; cases hx
  | cons y l ih =>
    unfold wsT
    cases h : wordT y.1 y.2.1 with
    | none => exact ih
    | some s =>
      intro x hx
      rcases List.mem_cons.1 hx with rfl | hx
      · obtain ⟨k', hk, ht⟩ := word_tok h
        simp only
        rw [show y.1.toNat = k' by omega]
        exact ht
      · exact ih x hx
theorem wsT_len (l : List Tok) (h : ∀ x ∈ l, x.2.1.length ≤ 100) : (joinedT (wsT l)).length ≤ 203 * l.length ∧ (wsT l).length ≤ l.length := by
  induction l with
  | nil => simp [wsT, joinedT]
  | cons y l ih =>
    have ih := ih fun x hx => h x (by simp [hx])
    have hy := h y (by simp)
    unfold wsT
    cases hw : wordT y.1 y.2.1 with
    | none => simp only [List.length_cons]; omega
    | some s =>
      have := word_len hw
      have e : (joinedT ((y.1.toNat, y.2.1, s) :: wsT l)).length = s.length + 1 + (joinedT (wsT l)).length := by simp [joinedT]; omega
      simp only [List.length_cons]
      omega
theorem toksAt_len : ∀ (ws : List (Nat × List UInt8 × List UInt8)) (p : Nat), (toksAt p ws).length = ws.length
  | [], _ => rfl
  | x :: r, p => by simp [toksAt, toksAt_len r]

/-- A slice of tokens that is the call's own. -/
def OwnT (w : World) (base : Nat) (v : Value) (l : List (Nat × List UInt8 × Nat)) : Prop := w.ownsRow base 23 3 v l.length (tokCells l)

theorem own_apart {w : World} {base base' e e' size size' n n' : Nat} {v v' : Value} {xs xs' : List Value} (h : w.ownsRow base e size v n xs) (h' : w.ownsRow base' e' size' v' n' xs') (hne : e ≠ e') : v.ownBlock = none ∨ v.ownBlock ≠ v'.ownBlock := by
  rcases h.2 with ⟨rfl, _⟩ | ⟨g, c, cur, rfl, _, hg, _⟩
  · exact .inl rfl
  · right
    rcases h'.2 with ⟨rfl, _⟩ | ⟨g', c', cur', rfl, _, hg', _⟩
    · simp [Value.ownBlock]
    · simp only [Value.ownBlock, ne_eq, Option.some.injEq]
      rintro rfl
      rw [hg] at hg'
      injection hg' with hg'
      injection hg' with _ he
      exact hne he

theorem wpList_append_tok {w : World} {ops : Array Oper} {rest : List Oper} {o : Oper} {a : Act} {Q : Exit → Act → World → Prop} (hgd : o.guard = none) (s x : Operand)
    (ho : o.op = .call { callee := .builtin .append, args := #[s, x], argTypes := #[28, 28] })
    (base : Nat) (v : Value) (l : List (Nat × List UInt8 × Nat)) (hs : a.eval s = v) (hown : OwnT w base v l) (ad : Addr) (hx : a.eval x = .slice (some ad) 1 1) (k' p : Nat) (t : List UInt8)
    (hc : ∀ j u, ([.int .i64 (k' : Int), .string ⟨t.toArray⟩, .int .i64 (p : Int)] : List Value)[j]? = some u → w.cell? (ad.add j) = some u) (hlen : l.length + 1 ≤ 1000000) (hbase : base ≤ w.heap.size)
    (h : ∀ v' w', OwnT w' base v' (l ++ [(k', t, p)]) → w.grownBy w' v.ownBlock → wpList Tryd.prog ops Q rest (a.put o.dst v') w') : wpList Tryd.prog ops Q (o :: rest) a w := by
  obtain ⟨i0, hi, hz0, hz1, hz2⟩ := info_parts infoTok
  refine wpList_append_own w hgd s x 28 ho base 23 i0 (.agg #[.int .i64 0, .string ⟨#[]⟩, .int .i64 0]) 3 32 Tryd.underlying28 hi hz0 hz1 hz2 rfl (by decide) v l.length (tokCells l) hs hown ad 1 1 [.int .i64 (k' : Int), .string ⟨t.toArray⟩, .int .i64 (p : Int)] hx rfl hc (by intro u hu; simp at hu; rcases hu with rfl | rfl | rfl <;> rfl) (by unfold maxLen; omega) (by omega) hbase (fun v' w' h2 h3 _ => h v' w' ?_ h3)
  unfold OwnT
  rw [tokCells_snoc, List.length_append]
  exact h2

theorem wpList_append_strG {w : World} {ops : Array Oper} {rest : List Oper} {o : Oper} {a : Act} {Q : Exit → Act → World → Prop} (hgd : o.guard = none) (s x : Operand)
    (ho : o.op = .call { callee := .builtin .append, args := #[s, x], argTypes := #[24, 9] })
    (base : Nat) (v : Value) (l : List UInt8) (hs : a.eval s = v) (hown : OwnB w base v l) (y : ByteArray) (hx : a.eval x = .string y) (t : List UInt8) (hy : y.data.toList = t)
    (hlen : l.length + t.length ≤ 1000000) (hbase : base ≤ w.heap.size)
    (h : ∀ v' w', OwnB w' base v' (l ++ t) → w.grownBy w' v.ownBlock → wpList Tryd.prog ops Q rest (a.put o.dst v') w') : wpList Tryd.prog ops Q (o :: rest) a w := by
  obtain ⟨i0, hi0, hz0, hz1, hz2⟩ := info_parts infoByte
  have hsz : y.size = t.length := by rw [← hy]; rfl
  refine Lib.wpList_append_own_string w hgd s x 24 9 ho base 5 i0 Tryd.underlying24 Tryd.underlying9 hi0 hz0 hz1 hz2 v l.length (Lib.byteCells l) hs hown y hx (by unfold maxLen; omega) (by omega) hbase (fun v' w' h2 h3 _ => h v' w' ?_ h3)
  unfold OwnB
  rw [byteCells_app, List.length_append, ← hsz]
  have e : Lib.strCells y = Lib.byteCells t := by rw [← hy]; rfl
  rw [← e]
  exact h2

theorem wpList_append_byteG {w : World} {ops : Array Oper} {rest : List Oper} {o : Oper} {a : Act} {Q : Exit → Act → World → Prop} (hgd : o.guard = none) (s x : Operand)
    (ho : o.op = .call { callee := .builtin .append, args := #[s, x], argTypes := #[24, 24] })
    (base : Nat) (v : Value) (l : List UInt8) (hs : a.eval s = v) (hown : OwnB w base v l) (ad : Addr) (c : UInt8) (hx : a.eval x = .slice (some ad) 1 1) (hc : w.cell? (ad.add 0) = some (.int .u8 (c.toNat : Int)))
    (hlen : l.length + 1 ≤ 1000000) (hbase : base ≤ w.heap.size)
    (h : ∀ v' w', OwnB w' base v' (l ++ [c]) → w.grownBy w' v.ownBlock → wpList Tryd.prog ops Q rest (a.put o.dst v') w') : wpList Tryd.prog ops Q (o :: rest) a w := by
  obtain ⟨i0, hi0, hz0, hz1, hz2⟩ := info_parts infoByte
  have hnews : ∀ j u, (Lib.byteCells [c])[j]? = some u → w.cell? (ad.add j) = some u := by
    intro j u hj
    rcases j with _ | j
    · simp [Lib.byteCells] at hj; rw [hc, hj]
    · simp [Lib.byteCells] at hj
  refine wpList_append_own w hgd s x 24 ho base 5 i0 (.int .u8 0) 1 1 Tryd.underlying24 hi0 hz0 hz1 hz2 rfl (by decide) v l.length (Lib.byteCells l) hs hown ad 1 1 (Lib.byteCells [c]) hx rfl hnews (byteCells_one _) (by unfold maxLen; omega) (by omega) hbase (fun v' w' h2 h3 _ => h v' w' ?_ h3)
  unfold OwnB
  rw [byteCells_app, List.length_append]
  exact h2

/-- The two rows that the law builds. -/
structure JSt (w : World) (base : Nat) (vb vt : Value) (bs : List UInt8) (toks : List (Nat × List UInt8 × Nat)) (wr : World) : Prop where
  own : OwnB wr base vb bs
  toks : OwnT wr base vt toks
  bel : Below base w wr
  le : base ≤ wr.heap.size

section
variable {w wr w' : World} {base : Nat} {vb vt v' : Value} {bs bs' : List UInt8} {toks toks' : List (Nat × List UInt8 × Nat)}
theorem JSt.below (s : JSt w base vb vt bs toks wr) (hb : Below wr.heap.size wr w') : JSt w base vb vt bs toks w' :=
  ⟨s.own.kept (row := none) ⟨hb.os, hb.tape, hb.output, hb.size, fun i hi _ => hb.block i hi⟩ (by cases vb.ownBlock <;> simp), s.toks.kept (row := none) ⟨hb.os, hb.tape, hb.output, hb.size, fun i hi _ => hb.block i hi⟩ (by cases vt.ownBlock <;> simp), s.bel.trans (hb.mono s.le), Nat.le_trans s.le hb.size⟩
theorem JSt.putT (s : JSt w base vb vt bs toks wr) (ho : OwnT w' base v' toks') (hg : wr.grownBy w' vt.ownBlock) : JSt w base vb v' bs toks' w' :=
  ⟨s.own.kept hg (own_apart s.own s.toks (by decide)), ho, s.bel.trans (below_of_grown hg (fun g h => (s.toks.lt g h).1) s.le), Nat.le_trans s.le hg.size⟩
theorem JSt.putB (s : JSt w base vb vt bs toks wr) (ho : OwnB w' base v' bs') (hg : wr.grownBy w' vb.ownBlock) : JSt w base v' vt bs' toks w' :=
  ⟨ho, s.toks.kept hg (own_apart s.toks s.own (by decide)), s.bel.trans (below_of_grown hg (fun g h => (s.own.lt g h).1) s.le), Nat.le_trans s.le hg.size⟩
theorem JSt.start (w : World) : JSt w w.heap.size (.slice (some ⟨w.heap.size, 0, none⟩) 0 0) (.slice (some ⟨w.heap.size + 1, 0, none⟩) 0 0) [] [] ((w.alloc (.cells #[] 5)).alloc (.cells #[] 23)) := by
  have o0 := World.ownsRow_made (e := 5) (size := 1) (base := w.heap.size) w #[] 0 (Nat.le_refl _) (Nat.zero_le _) rfl
  have o1 := World.ownsRow_made (e := 23) (size := 3) (base := w.heap.size) (w.alloc (.cells #[] 5)) #[] 0 (by simp) (Nat.zero_le _) rfl
  simp only [World.size_alloc] at o1
  exact ⟨o0.alloc _, o1, ((Below.refl _ _).alloc (Nat.le_refl _) _).alloc (by simp) _, by simp; omega⟩
end

theorem joined_at (ts : List Tok) {j : Nat} (hj : j < ts.length) : ts.take (j + 1) = ts.take j ++ [ts[j]] := List.take_succ_eq_append_getElem hj

set_option maxRecDepth 100000 in
set_option maxHeartbeats 3200000 in
theorem joins_walk (a0 : Option Addr) (cap0 : Nat) (ts : List Tok) (w : World) (m : Int) (hm : w.cell? ⟨0, 0, none⟩ = some (.int .i64 m)) (ht : TokIn w w.heap.size a0 ts) :
    Calls Tryd.prog 4 #[.slice a0 ts.length cap0] w fun e w' => e = .returned (.bool true) ∧ Below w.heap.size w w' := by
  go_enter Tryd.func4, Tryd.ntmps4
  go_wp2_with fail
  refine (speaks_any _).mono ?_
  rintro e w1 ⟨rfl, hb1⟩
  by_cases hl : ts.length ≤ 60
  · have s0 := JSt.start w1
    go_wp2_with fail
    generalize hW0 : (w1.alloc (.cells #[] 5)).alloc (.cells #[] 23) = W0 at s0 ⊢
    clear hW0
    have h01 : 0 < w1.heap.size := by have := World.block_lt_of_cell? w _ hm; have := hb1.size; simp at *; omega
    have hm1 : w1.cell? ⟨0, 0, none⟩ = some (.int .i64 m) := by
      have h0 : 0 < w.heap.size := by have := World.block_lt_of_cell? w _ hm; simpa using this
      exact (hb1.cell (by simpa using h0)).trans hm
    go_loopg [3, 4, 20] ts.length (fun r vb vt v wr => ∃ j : Nat, j + r = ts.length ∧ v = .int .i64 (j : Int) ∧ (∀ x ∈ ts.take j, x.2.1.length ≤ 100) ∧ JSt w1 w1.heap.size vb vt (joinedT (wsT (ts.take j))) (toksAt 0 (wsT (ts.take j))) wr)
    case atStart => exact ⟨0, by omega, rfl, by simp, by simpa [wsT, joinedT, toksAt] using s0⟩
    case round =>
      obtain ⟨j, hjr, rfl, hsm, s⟩ := hrel
      have HJ := hide hjr
      clear hjr s0
      have hjl := wsT_len (ts.take j) hsm
      have htl : (ts.take j).length ≤ j := List.length_take_le _ _
      obtain ⟨va, vc, rfl⟩ := own_slice s.own
      obtain ⟨ta, tc, hvt⟩ := own_slice s.toks
      subst hvt
      rcases Nat.lt_or_ge j ts.length with hj | hj
      · obtain ⟨b, off, rfl, hbw, hc⟩ := ht (by omega)
        obtain ⟨x0, x1, x2⟩ := hc j hj
        have hblt : b < w1.heap.size := by have := hb1.size; omega
        have hcw : ∀ o u, w.cell? ⟨b, o, none⟩ = some u → _ := fun o u h => (s.bel.cell (p := ⟨b, o, none⟩) hblt).trans ((hb1.cell (p := ⟨b, o, none⟩) hbw).trans h)
        replace x0 := hcw _ _ x0
        replace x1 := hcw _ _ x1
        replace x2 := hcw _ _ x2
        clear hcw hc
        have HT := hide (joined_at ts hj)
        have hmem : ∀ y ∈ ts.take j ++ [ts[j]], y.2.1.length ≤ 100 ∨ y = ts[j] := by
          intro y hy
          rcases List.mem_append.1 hy with hy | hy
          · exact .inl (hsm y hy)
          · exact .inr (by simpa using hy)
        generalize ts[j] = x at x0 x1 x2 HT hmem
        obtain ⟨k, t, a⟩ := x
        simp only at x0 x1 x2
        have HM := hide hmem
        clear hmem hsm
        have hws := wsT_snoc (ts.take j) (k, t, a)
        simp only at hws
        have HB := hide (show joinedT (wsT (ts.take j)) = joinedT (wsT (ts.take j)) from rfl)
        generalize hbs : joinedT (wsT (ts.take j)) = bs at s hjl ⊢
        generalize htk : toksAt 0 (wsT (ts.take j)) = tk at s ⊢
        have htkl : tk.length ≤ 60 := by rw [← htk, toksAt_len]; omega
        have hbl : bs.length ≤ 12180 := by omega
        have HBS := hide hbs
        have HTK := hide htk
        clear hbs htk hjl HB
        by_cases htl100 : t.length ≤ 100
        · have hsm1 : ∀ y ∈ ts.take (j + 1), y.2.1.length ≤ 100 := by
            rw [HT.out]
            intro y hy
            rcases HM.out y hy with h | rfl
            · exact h
            · exact htl100
          have HSM := hide hsm1
          clear hsm1 HM
          have hB0 : Below wr.heap.size wr (wr.alloc (.cells #[.int .i64 k, .string ⟨t.toArray⟩, .int .i64 a] 23)) := (Below.refl _ _).alloc (Nat.le_refl _) _
          have hX := Blk.new wr 23 #[.int .i64 k, .string ⟨t.toArray⟩, .int .i64 a]
          have hm2 := (hB0.cell (p := ⟨0, 0, none⟩) (by have := s.le; simp; omega)).trans ((s.bel.cell (p := ⟨0, 0, none⟩) (by simpa using h01)).trans hm1)
          go_wp2_with fail
          replace s := s.below hB0
          clear hB0 x0 x1 x2
          generalize hW2 : wr.alloc (.cells #[.int .i64 k, .string ⟨t.toArray⟩, .int .i64 a] 23) = W2 at s hX hm2 ⊢
          clear hW2
          refine (word_any k t a W2 m hm2 (by omega)).mono ?_
          intro e w3 hpost
          obtain ⟨he, hb3⟩ := hpost
          replace s := s.below hb3
          replace hX := hX.below hb3 hX.lt
          clear hb3 hm2
          obtain ⟨c0, c1, -, -⟩ := hX.c3
          have hxl := hX.lt
          cases hw : wordT k t with
          | none =>
            rw [hw] at he hws
            simp [wordRes] at he
            subst he
            simp only [List.append_nil] at hws
            have HWS := hide hws
            clear hws hw
            go_wp2_with fail
            have hjr := HJ.out
            go_roundg (gk - 1)
            case measure => omega
            case rel => exact ⟨j + 1, by omega, by go_num, HSM.out, by rw [HT.out, HWS.out, HBS.out, HTK.out]; exact s⟩
          | some sw =>
            rw [hw] at he hws
            simp [wordRes] at he
            subst he
            simp only at hws
            have HWS := hide hws
            have hswl := word_len hw
            obtain ⟨k', hk', _⟩ := word_tok hw
            have HK := hide hk'
            clear hws hw hk'
            obtain rfl : (k' : Int) = k := HK.out
            have hB1 : Below w3.heap.size w3 (w3.alloc (.cells #[.int .i64 (k' : Int), .string ⟨t.toArray⟩, .int .i64 (bs.length : Int)] 23)) := (Below.refl _ _).alloc (Nat.le_refl _) _
            have s1 := s.below hB1
            go_wp2_with (at_builtin; refine wpList_append_tok rfl (.tmp 35) (.tmp 43) rfl w1.heap.size _ tk rfl s1.toks ⟨w3.heap.size, 0, none⟩ rfl k' bs.length t ?c1 ?c2 ?c3 ?_)
            case c1 => exact new_cells _ _ _ _ rfl
            case c2 => omega
            case c3 => exact s1.le
            intro v4 w4 hown4 hg4
            have s2 := s1.putT hown4 hg4
            clear s s1 hown4 hg4 hB1 c0 c1 hX hxl
            go_wp2_with (at_builtin; refine wpList_append_strG rfl (.tmp 45) (.tmp 46) rfl w1.heap.size _ bs rfl s2.own ⟨sw.toArray⟩ rfl sw rfl ?d1 ?d2 ?_)
            case d1 => omega
            case d2 => exact s2.le
            intro v5 w5 hown5 hg5
            have s3 := s2.putB hown5 hg5
            clear s2 hown5 hg5
            have hB2 : Below w5.heap.size w5 (w5.alloc (.cells #[.int .u8 32] 5)) := (Below.refl _ _).alloc (Nat.le_refl _) _
            have s4 := s3.below hB2
            go_wp2_with (at_builtin; refine wpList_append_byteG rfl (.tmp 47) (.tmp 48) rfl w1.heap.size _ _ rfl s4.own ⟨w5.heap.size, 0, none⟩ 32 rfl ?f1 ?f2 ?f3 ?_)
            case f1 => rw [add_plain]; exact (Blk.new _ _ _).cell 0
            case f2 => simp; omega
            case f3 => exact s4.le
            intro v6 w6 hown6 hg6
            have s5 := s4.putB hown6 hg6
            clear s3 s4 hown6 hg6 hB2
            go_wp2_with fail
            have hjr := HJ.out
            go_roundg (gk - 1)
            case measure => omega
            case rel =>
              refine ⟨j + 1, by omega, by go_num, HSM.out, ?_⟩
              rw [HT.out, HWS.out, joined_snoc, toksAt_snoc, HBS.out, HTK.out, Int.toNat_natCast]
              simpa using s5
        · go_wp2_with fail
          go_ret
          exact ⟨rfl, (hb1.trans (s.bel.mono hb1.size)).alloc (by have := s.le; have := hb1.size; omega) _⟩
      · have hte : ts.take j = ts := List.take_of_length_le hj
        rw [hte] at s hjl hsm ⊢
        have hlx := lex_joined (wsT_good ts)
        obtain ⟨tx, hvc⟩ := own_txt s.own
        have hrowW := row_of_own s.toks rfl
        have htkl : (toksAt 0 (wsT ts)).length ≤ 60 := by rw [toksAt_len]; omega
        have hbl : (joinedT (wsT ts)).length ≤ 12180 := by omega
        generalize joinedT (wsT ts) = bs at s hlx tx hvc hbl ⊢
        generalize toksAt 0 (wsT ts) = tk at s hlx hrowW htkl ⊢
        have hB := hb1.trans (s.bel.mono hb1.size)
        have HX := hide hlx
        clear s hsm hjl hlx hte
        go_wp2_with fail
        refine (read_any _ va vc bs _ tx hvc (by omega)).mono ?_
        intro e w8 hpost
        obtain ⟨hb8, la, lc, rfl, hrow, hlenT, _⟩ := read_sum hpost
        rw [res_ok (by omega) HX.out] at hrow hlenT ⊢
        simp only at hrow hlenT ⊢
        have hB8 : Below w.heap.size w w8 := hB.trans (hb8.mono hB.size)
        have hrow2 := hrowW.below hb8 (Nat.le_refl _)
        clear hpost hb8 tx hB hrowW
        unfold faultAgg
        have hB9 : Below w8.heap.size w8 (w8.alloc (.cells #[.int .i64 0, .int .i64 0] 31)) := (Below.refl _ _).alloc (Nat.le_refl _) _
        have hr1 := hrow.below hB9 (Nat.le_refl _)
        have hr2 := hrow2.below hB9 (Nat.le_refl _)
        have hB10 : Below w.heap.size w (w8.alloc (.cells #[.int .i64 0, .int .i64 0] 31)) := hB8.alloc hB8.size _
        clear hB9 hrow hrow2 hB8
        go_wp2_with (go_at_call 12; refine (same_any _ _ _ _ _ _ hr1 hr2 (by omega)).mono ?_; rintro e w' ⟨rfl, mm, rfl⟩)
        go_ret
        exact ⟨rfl, below_drewN hB10 _⟩
  · go_wp2_with fail
    go_ret
    exact ⟨rfl, hb1⟩
end Go.Proofs.YtajlibegalbbmaaDoor
