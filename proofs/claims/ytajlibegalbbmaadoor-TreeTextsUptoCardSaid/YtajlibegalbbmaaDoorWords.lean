/- The walk of the law TokenWords. -/
import Derived.Test.YtajlibegalbbmaaDoorRefWord
import Derived.ArgAppend
import Derived.Lib.AppendStr
import Derived.Lib.SlBytesConst
namespace Go.Proofs.YtajlibegalbbmaaDoor
open Go.RowKit

/-- A slice of bytes that is the call's own. -/
def OwnB (w : World) (base : Nat) (v : Value) (l : List UInt8) : Prop := w.ownsRow base 5 1 v l.length (Lib.byteCells l)
/-- A slice of bytes that is the call's own; or a constant's, without room. -/
def Buf (w : World) (base : Nat) (v : Value) (l : List UInt8) : Prop :=
  w.ownsRow base 5 1 v l.length (Lib.byteCells l) ∨ ∃ b : Addr, v = .slice (some b) l.length l.length ∧ ∀ j u, (Lib.byteCells l)[j]? = some u → w.cell? (b.add j) = some u

theorem below_of_grown {w w' : World} {base : Nat} {row : Option Nat} (h : w.grownBy w' row) (hr : ∀ g, row = some g → base ≤ g) (hb : base ≤ w.heap.size) : Below base w w' :=
  ⟨h.os, h.tape, h.output, h.size, fun i hi => h.block i (Nat.lt_of_lt_of_le hi hb) (fun e => by have := hr i e.symm; omega)⟩

theorem Buf.below {w w' : World} {base : Nat} {v : Value} {l : List UInt8} (h : Buf w base v l) (hb : Below w.heap.size w w') : Buf w' base v l := by
  rcases h with h | ⟨b, hv, hc⟩
  · refine .inl (h.kept (row := none) ⟨hb.os, hb.tape, hb.output, hb.size, fun i hi _ => hb.block i hi⟩ ?_)
    cases v.ownBlock <;> simp
  · exact .inr ⟨b, hv, fun j u hj => (hb.cell (World.block_lt_of_cell? w _ (hc j u hj))).trans (hc j u hj)⟩

theorem byteCells_app (a b : List UInt8) : Lib.byteCells (a ++ b) = Lib.byteCells a ++ Lib.byteCells b := by simp [Lib.byteCells]
theorem byteCells_one (l : List UInt8) : ∀ u ∈ Lib.byteCells l, u.oneCell' = true := by
  intro u hu
  simp [Lib.byteCells] at hu
  obtain ⟨x, _, rfl⟩ := hu
  rfl

/-- 'append(b, c)', b such a slice, c one byte that lies at an address. -/
theorem wpList_append_buf {w : World} {ops : Array Oper} {rest : List Oper} {o : Oper} {a : Act} {Q : Exit → Act → World → Prop} (hgd : o.guard = none) (s x : Operand)
    (ho : o.op = .call { callee := .builtin .append, args := #[s, x], argTypes := #[24, 24] })
    (base : Nat) (v : Value) (l : List UInt8) (hs : a.eval s = v) (hbuf : Buf w base v l) (ad : Addr) (c : UInt8) (hx : a.eval x = .slice (some ad) 1 1) (hc : w.cell? (ad.add 0) = some (.int .u8 (c.toNat : Int)))
    (hlen : l.length + 1 ≤ 1000000) (hbase : base ≤ w.heap.size)
    (h : ∀ v' w', OwnB w' base v' (l ++ [c]) → Below base w w' → wpList Tryd.prog ops Q rest (a.put o.dst v') w') : wpList Tryd.prog ops Q (o :: rest) a w := by
  obtain ⟨i0, hi0, hz0, hz1, hz2⟩ := info_parts infoByte
  have hnews : ∀ j u, (Lib.byteCells [c])[j]? = some u → w.cell? (ad.add j) = some u := by
    intro j u hj
    rcases j with _ | j
    · simp [Lib.byteCells] at hj; rw [hc, hj]
    · simp [Lib.byteCells] at hj
  rcases hbuf with hown | ⟨b, hv, hcell⟩
  · refine wpList_append_own w hgd s x 24 ho base 5 i0 (.int .u8 0) 1 1 Tryd.underlying24 hi0 hz0 hz1 hz2 rfl (by decide) v l.length (Lib.byteCells l) hs hown ad 1 1 (Lib.byteCells [c]) hx rfl hnews (byteCells_one _) (by unfold maxLen; omega) (by omega) hbase (fun v' w' h2 h3 _ => ?_)
    refine h v' w' ?_ (below_of_grown h3 (fun g hg => (hown.lt g hg).1) hbase)
    unfold OwnB
    rw [byteCells_app, List.length_append]
    exact h2
  · subst hv
    refine wpList_append_grows w hgd s x 24 ho 5 i0 (.int .u8 0) 1 1 Tryd.underlying24 hi0 hz0 hz1 hz2 rfl (by decide) (some b) l.length l.length (Lib.byteCells l) hs (by simp) (by rw [Lib.byteCells_length]; omega) (fun b' hb' => by injection hb' with hb'; subst hb'; exact hcell) ad 1 1 (Lib.byteCells [c]) hx rfl hnews (byteCells_one _) (by omega) (by unfold maxLen; omega) (by omega) (fun v' w' h2 h3 => ?_)
    refine h v' w' ?_ (below_of_grown h3 (fun g hg => by cases hg) hbase)
    unfold OwnB
    rw [byteCells_app, List.length_append]
    exact own_base h2 hbase

def keepB (c : UInt8) : Bool := !(c.toNat == 10)
def preT (bs : List UInt8) (j : Nat) : List UInt8 := 9 :: 59 :: (bs.take j).filter keepB
theorem preT_len (bs : List UInt8) (j : Nat) : (preT bs j).length ≤ j + 2 := by
  unfold preT
  have h1 := List.length_filter_le keepB (bs.take j)
  have h2 : (bs.take j).length ≤ j := List.length_take_le _ _
  simp; omega
theorem preT_yes {bs : List UInt8} {j : Nat} (hj : j < bs.length) (h : keepB bs[j] = true) : preT bs (j + 1) = preT bs j ++ [bs[j]] := by
  unfold preT
  rw [List.take_succ_eq_append_getElem hj, List.filter_append]
  simp [h]
theorem preT_no {bs : List UInt8} {j : Nat} (hj : j < bs.length) (h : keepB bs[j] = false) : preT bs (j + 1) = preT bs j := by
  unfold preT
  rw [List.take_succ_eq_append_getElem hj, List.filter_append]
  simp [h]
theorem filter_no10 (bs : List UInt8) : ∀ c ∈ bs.filter keepB, c ≠ 10 := by
  intro c hc
  have := (List.mem_filter.1 hc).2
  rintro rfl
  simp [keepB] at this

theorem wpList_append_str {w : World} {ops : Array Oper} {rest : List Oper} {o : Oper} {a : Act} {Q : Exit → Act → World → Prop} (hgd : o.guard = none) (s x : Operand)
    (ho : o.op = .call { callee := .builtin .append, args := #[s, x], argTypes := #[24, 9] })
    (base : Nat) (v : Value) (l : List UInt8) (hs : a.eval s = v) (hown : OwnB w base v l) (y : ByteArray) (hx : a.eval x = .string y) (t : List UInt8) (hy : y.data.toList = t)
    (hlen : l.length + t.length ≤ 1000000) (hbase : base ≤ w.heap.size)
    (h : ∀ v' w', OwnB w' base v' (l ++ t) → Below base w w' → wpList Tryd.prog ops Q rest (a.put o.dst v') w') : wpList Tryd.prog ops Q (o :: rest) a w := by
  obtain ⟨i0, hi0, hz0, hz1, hz2⟩ := info_parts infoByte
  have hsz : y.size = t.length := by rw [← hy]; rfl
  refine Lib.wpList_append_own_string w hgd s x 24 9 ho base 5 i0 Tryd.underlying24 Tryd.underlying9 hi0 hz0 hz1 hz2 v l.length (Lib.byteCells l) hs hown y hx (by unfold maxLen; omega) (by omega) hbase (fun v' w' h2 h3 _ => ?_)
  refine h v' w' ?_ (below_of_grown h3 (fun g hg => (hown.lt g hg).1) hbase)
  unfold OwnB
  rw [byteCells_app, List.length_append, ← hsz]
  have e : Lib.strCells y = Lib.byteCells t := by rw [← hy]; rfl
  rw [← e]
  exact h2

theorem tok_new {w : World} {k : Int} {k' p : Nat} {t : List UInt8} {z : Int} (hk : (k' : Int) = k) (hz : z = (p : Int)) : TokRow (w.alloc (.cells #[.int .i64 k, .string ⟨t.toArray⟩, .int .i64 z] 23)) (some ⟨w.heap.size, 0, none⟩) [(k', t, p)] := by
  subst hk hz
  intro _
  refine ⟨w.heap.size, 0, rfl, fun i hi => ?_⟩
  obtain rfl : i = 0 := by simpa using hi
  obtain ⟨c0, c1, c2, -⟩ := (Blk.new w 23 #[.int .i64 (k' : Int), .string ⟨t.toArray⟩, .int .i64 (p : Int)]).c3
  exact ⟨c0, c1, c2⟩

/-- What the walk of the comment keeps. -/
structure WSt (w : World) (k : Int) (t : List UInt8) (a : Int) (base : Nat) (v : Value) (l : List UInt8) (wr : World) : Prop where
  buf : Buf wr base v l
  box : Blk wr w.heap.size 23 #[.int .i64 k, .string ⟨t.toArray⟩, .int .i64 a]
  bel : Below w.heap.size w wr
  lt : w.heap.size < base
  le : base ≤ wr.heap.size

theorem Buf.slice {w : World} {base : Nat} {v : Value} {l : List UInt8} (h : Buf w base v l) : ∃ va vc, v = .slice va l.length vc := by
  rcases h with h | ⟨b, hv, _⟩
  · exact own_slice h
  · exact ⟨_, _, hv⟩
theorem WSt.own {w wr w5 : World} {k : Int} {t : List UInt8} {a : Int} {base : Nat} {v v' : Value} {l l' : List UInt8} {o : Obj} (st : WSt w k t a base v l wr) (hown : OwnB w5 base v' l') (hb : Below base (wr.alloc o) w5) : WSt w k t a base v' l' w5 := by
  have hb0 : Below base wr w5 := ((Below.refl base wr).alloc st.le o).trans hb
  exact ⟨.inl hown, st.box.below hb0 st.lt, st.bel.trans (hb0.mono (Nat.le_of_lt st.lt)), st.lt, Nat.le_trans st.le hb0.size⟩
theorem WSt.own' {w wr w5 : World} {k : Int} {t : List UInt8} {a : Int} {base : Nat} {v v' : Value} {l l' : List UInt8} (st : WSt w k t a base v l wr) (hown : OwnB w5 base v' l') (hb : Below base wr w5) : WSt w k t a base v' l' w5 :=
  ⟨.inl hown, st.box.below hb st.lt, st.bel.trans (hb.mono (Nat.le_of_lt st.lt)), st.lt, Nat.le_trans st.le hb.size⟩

set_option maxRecDepth 100000 in
set_option maxHeartbeats 3200000 in
theorem words_walk (k : Int) (t : List UInt8) (a : Int) (a0 : Option Addr) (cap0 : Nat) (bs : List UInt8) (w : World) (m : Int) (hm : w.cell? ⟨0, 0, none⟩ = some (.int .i64 m)) (ht : Txt w w.heap.size a0 bs) :
    Calls Tryd.prog 3 #[tokAgg k t a, .slice a0 bs.length cap0] w fun e w' => e = .returned (.bool true) ∧ Below w.heap.size w w' := by
  unfold tokAgg
  have hBx : Below w.heap.size w (w.alloc (.cells #[.int .i64 k, .string ⟨t.toArray⟩, .int .i64 a] 23)) := (Below.refl _ _).alloc (Nat.le_refl _) _
  have hX := Blk.new w 23 #[.int .i64 k, .string ⟨t.toArray⟩, .int .i64 a]
  go_enter Tryd.func3, Tryd.ntmps3
  go_wp2_with fail
  generalize w.alloc (.cells #[.int .i64 k, .string ⟨t.toArray⟩, .int .i64 a] 23) = W0 at hBx hX ⊢
  refine (speaks_any _).mono ?_
  rintro e w1 ⟨rfl, hb1⟩
  replace hX := hX.below hb1 hX.lt
  have hB1 : Below w.heap.size w w1 := hBx.trans (hb1.mono hBx.size)
  clear hBx hb1
  obtain ⟨c0, c1, c2, -⟩ := hX.c3
  by_cases hl1 : t.length ≤ 500
  · by_cases hl2 : bs.length ≤ 200
    · go_wp2_with fail
      have h0 : 0 < w.heap.size := by have := World.block_lt_of_cell? w _ hm; simpa using this
      refine (word_any k t a w1 m ((hB1.cell (by simpa using h0)).trans hm) (by omega)).mono ?_
      intro e w2 hpost
      obtain ⟨he, hb2⟩ := hpost
      replace hX := hX.below hb2 hX.lt
      have hB2 : Below w.heap.size w w2 := hB1.trans (hb2.mono hB1.size)
      clear hB1 hb2 c0 c1 c2
      obtain ⟨c0, c1, c2, -⟩ := hX.c3
      cases hw : wordT k t with
      | none =>
        rw [hw] at he
        simp [wordRes] at he
        subst he
        go_wp2_with fail
        refine (rword_any k t a w2 (by omega)).mono ?_
        intro e w3 hpost
        obtain ⟨he, hb3⟩ := hpost
        rw [hw] at he
        simp [wordRes] at he
        subst he
        have hB3 : Below w.heap.size w w3 := hB2.trans (hb3.mono hB2.size)
        go_wp2_with fail
        go_ret
        exact ⟨rfl, hB3⟩
      | some s =>
        rw [hw] at he
        simp [wordRes] at he
        subst he
        go_wp2_with fail
        refine (rword_any k t a w2 (by omega)).mono ?_
        intro e w3 hpost
        obtain ⟨he, hb3⟩ := hpost
        rw [hw] at he
        simp [wordRes] at he
        subst he
        have hB3 : Below w.heap.size w w3 := hB2.trans (hb3.mono hB2.size)
        replace hX := hX.below hb3 hX.lt
        clear hB2 hb3 c0 c1 c2
        obtain ⟨c0, c1, c2, -⟩ := hX.c3
        have hsl := word_len hw
        obtain ⟨k', hk', htok⟩ := word_tok hw
        have HK := hide hk'
        have HT := hide htok
        clear hw hk' htok
        have kc := fun (w : World) (C : Array Value) (n c : Nat) => Lib.run_convert_bytes_const (P := Tryd.prog) w 24 5 C n c Tryd.underlying24 Tryd.underlying5
        have st0 : WSt w k t a w3.heap.size (.slice (some ⟨w3.heap.size, 0, none⟩) 2 2) (preT bs 0) (w3.alloc (.cells #[.int .u8 9, .int .u8 59] 5 (2, 3))) := by
          refine ⟨.inr ⟨⟨w3.heap.size, 0, none⟩, by simp [preT], ?_⟩, hX.alloc _, hB3.alloc hB3.size _, hX.lt, by simp⟩
          intro j u hj
          rw [add_plain, World.cell?_alloc_mark]
          simpa [preT, Lib.byteCells] using hj
        have h3 := hX.lt
        clear hX hB3 c0 c1 c2
        go_wp2_with fail
        clear kc
        generalize hw4 : w3.alloc (.cells #[.int .u8 9, .int .u8 59] 5 (2, 3)) = w4 at st0 ⊢
        clear hw4
        go_loopg [9, 50] bs.length (fun r v i wr => ∃ j : Nat, j + r = bs.length ∧ i = .int .i64 (j : Int) ∧ WSt w k t a w3.heap.size v (preT bs j) wr)
        case atStart => exact ⟨0, by omega, rfl, st0⟩
        case round =>
          obtain ⟨j, hjr, rfl, st⟩ := hrel
          have HJ := hide hjr
          clear hjr st0
          rcases Nat.lt_or_ge j bs.length with hj | hj
          · obtain ⟨b, off, rfl, hbw, hc⟩ := ht (by omega)
            have hcell := (st.bel.cell (p := ⟨b, off + j, none⟩) hbw).trans (hc j hj)
            have hlen := preT_len bs j
            cases hkb : keepB bs[j] with
            | true =>
              have hne : ((bs[j].toNat : Int) != 10) = true := by
                simp [keepB] at hkb
                simp; omega
              have HP := hide (preT_yes hj hkb)
              generalize bs[j] = c at hcell hne HP
              clear hc hkb
              have hb1 := st.buf.below ((Below.refl _ _).alloc (Nat.le_refl _) (.cells #[.int .u8 (c.toNat : Int)] 5))
              go_wp2_with (at_builtin; refine wpList_append_buf rfl _ _ rfl w3.heap.size _ (preT bs j) rfl hb1 ⟨_, 0, none⟩ c rfl ?c1 ?c2 ?c3 ?_)
              case c1 => rw [add_plain]; exact (Blk.new _ _ _).cell 0
              case c2 => omega
              case c3 => have := st.le; simp; omega
              intro v' w5 hown hb5
              have st5 := st.own hown hb5
              clear hown hb5 st hb1
              go_wp2_with fail
              have hjr := HJ.out
              go_roundg (gk - 1)
              case measure => omega
              case rel => exact ⟨j + 1, by omega, by go_num, by rw [HP.out]; exact st5⟩
            | false =>
              have hne : ((bs[j].toNat : Int) != 10) = false := by
                simp [keepB] at hkb
                simp; omega
              have HP := hide (preT_no hj hkb)
              generalize bs[j] = c at hcell hne HP
              clear hc hkb
              go_wp2_with fail
              have hjr := HJ.out
              go_roundg (gk - 1)
              case measure => omega
              case rel => exact ⟨j + 1, by omega, by go_num, by rw [HP.out]; exact st⟩
          · have hje : preT bs j = preT bs bs.length := by
              unfold preT
              rw [List.take_of_length_le hj, List.take_length]
            rw [hje] at st
            clear hje
            have hlen := preT_len bs bs.length
            have HPR : Hid (preT bs bs.length = 9 :: 59 :: bs.filter keepB) := hide (by unfold preT; rw [List.take_length])
            generalize preT bs bs.length = l at st hlen HPR
            obtain ⟨va, vc, rfl⟩ := st.buf.slice
            have hb1 := st.buf.below ((Below.refl _ _).alloc (Nat.le_refl _) (.cells #[.int .u8 10] 5))
            go_wp2_with (at_builtin; refine wpList_append_buf rfl (.tmp 64) (.tmp 65) rfl w3.heap.size _ l rfl hb1 ⟨_, 0, none⟩ 10 rfl ?c1 ?c2 ?c3 ?_)
            case c1 => rw [add_plain]; exact (Blk.new _ _ _).cell 0
            case c2 => omega
            case c3 => have := st.le; simp; omega
            intro v5 w5 hown hb5
            have st5 := st.own hown hb5
            clear st hb1 hb5
            go_wp2_with (at_builtin; refine wpList_append_str rfl (.tmp 66) (.tmp 67) rfl w3.heap.size v5 (l ++ [10]) rfl hown ⟨s.toArray⟩ rfl s rfl ?d1 ?d2 ?_)
            case d1 => simp; omega
            case d2 => exact st5.le
            intro v6 w6 hown6 hb6
            have st6 := st5.own' hown6 hb6
            clear st5 hb6 hown
            go_wp2_with (at_builtin; refine wpList_append_str rfl (.tmp 68) _ rfl w3.heap.size v6 _ rfl hown6 ⟨#[32, 13, 10]⟩ rfl [32, 13, 10] rfl ?f1 ?f2 ?_)
            case f1 => simp; omega
            case f2 => exact st6.le
            intro v7 w7 hown7 hb7
            have st7 := st6.own' hown7 hb7
            clear st6 hb7 hown6
            obtain ⟨ra, rc, rfl⟩ := st7.buf.slice
            obtain ⟨tx, hvc⟩ := own_txt hown7
            have hlx : lex (l ++ 10 :: (s ++ [32, 13, 10])) = .ok [(k', t, l.length + 1)] := by
              have := lex_around (filter_no10 bs) HT.out
              rw [HPR.out]
              simpa [aroundT] using this
            have hlt : (l ++ 10 :: (s ++ [32, 13, 10])).length ≤ 1000000 := by simp; omega
            generalize l ++ 10 :: (s ++ [32, 13, 10]) = bb at *
            clear hown7
            go_wp2_with fail
            refine (read_any w7 ra rc bb _ tx hvc (by omega)).mono ?_
            intro e w8 hpost
            obtain ⟨hb8, la, lc, rfl, hrow, hlenT, _⟩ := read_sum hpost
            rw [res_ok (by omega) hlx] at hrow hlenT ⊢
            simp only at hrow hlenT ⊢
            have hX := st7.box.below hb8 st7.box.lt
            have hB8 : Below w.heap.size w w8 := st7.bel.trans (hb8.mono st7.bel.size)
            obtain ⟨c0, c1, -, -⟩ := hX.c3
            have hxl := hX.lt
            clear hpost hb8 st7 tx hlx
            unfold faultAgg
            have hr2 := tok_new (w := w8.alloc (.cells #[.int .i64 0, .int .i64 0] 31)) (t := t) HK.out (show (l.length : Int) + 1 = ((l.length + 1 : Nat) : Int) by omega)
            have hr1 : TokRow ((w8.alloc (.cells #[.int .i64 0, .int .i64 0] 31)).alloc (.cells #[.int .i64 k, .string ⟨t.toArray⟩, .int .i64 ((l.length : Int) + 1)] 23)) la [(k', t, l.length + 1)] := hrow.below (((Below.refl w8.heap.size w8).alloc (Nat.le_refl _) _).alloc (by simp) _) (Nat.le_refl _)
            have hB9 : Below w.heap.size w ((w8.alloc (.cells #[.int .i64 0, .int .i64 0] 31)).alloc (.cells #[.int .i64 k, .string ⟨t.toArray⟩, .int .i64 ((l.length : Int) + 1)] 23)) := (hB8.alloc hB8.size _).alloc (by have := hB8.size; simp; omega) _
            simp only [World.size_alloc] at hr2
            go_wp2_with (go_at_call 12; refine (same_any _ _ _ _ _ _ hr1 hr2 (by simp)).mono ?_; rintro e w' ⟨rfl, mm, rfl⟩)
            go_ret
            exact ⟨rfl, below_drewN hB9 _⟩
    · go_wp2_with fail
      go_ret
      exact ⟨rfl, hB1⟩
  · go_wp2_with fail
    go_ret
    exact ⟨rfl, hB1⟩
end Go.Proofs.YtajlibegalbbmaaDoor
