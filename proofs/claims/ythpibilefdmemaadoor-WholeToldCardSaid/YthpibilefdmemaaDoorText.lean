/- whole.Text: by its contract. -/
import Derived.Test.YthpibilefdmemaaDoorDecLaw
import Derived.Test.YthpibilefdmemaaDoorFmt
import Derived.Test.YthpibilefdmemaaDoorBuilder
namespace Go.Proofs.YthpibilefdmemaaDoor
open Go.RowKit

/-- What Text leaves. -/
def TextPost (w : World) (z : Int) (e : Ending) (w' : World) : Prop := e = .returned (.string ⟨(decZ z).toArray⟩) ∧ Below w.heap.size w w'

/-- The builder's text so far. -/
structure TxSt (W1 : World) (l : List UInt8) (wr : World) : Prop where
  bld : IsBuilder W1.heap.size W1.heap.size (Lib.byteCells l) wr
  bel : Below W1.heap.size W1 wr
section
variable {W1 wr w' : World} {l : List UInt8}
theorem isBuilder_below {B b : Nat} {bs : List Value} (h : IsBuilder B b bs wr) (hb : Below wr.heap.size wr w') : IsBuilder B b bs w' := by
  have key : ∀ p, BuilderAt B b p bs wr → BuilderAt B b p bs w' := by
    intro p h
    have hlt := h.lt
    obtain ⟨hB, v, hbk, hown, hne⟩ := h
    exact ⟨hB, v, (hb.block b hlt).trans hbk, hown.kept (row := none) ⟨hb.os, hb.tape, hb.output, hb.size, fun i hi _ => hb.block i hi⟩ (by cases v.ownBlock <;> simp), hne⟩
  rcases h with h | h
  · exact .inl (key _ h)
  · exact .inr (key _ h)
theorem TxSt.grow (s : TxSt W1 l wr) (hb : Below wr.heap.size wr w') : TxSt W1 l w' := ⟨isBuilder_below s.bld hb, s.bel.trans (hb.mono s.bel.size)⟩
theorem TxSt.byte (s : TxSt W1 l wr) {c : UInt8} {z : Int} (hz : z = c.toNat) (h : BuilderAt W1.heap.size W1.heap.size (.pointer (some ⟨W1.heap.size, 0, none⟩)) (Lib.byteCells l ++ [.int .u8 z]) w') (hb : Below W1.heap.size wr w') : TxSt W1 (l ++ [c]) w' := by
  subst hz
  exact ⟨.inr (by rw [Lib.byteCells_append]; exact h), s.bel.trans hb⟩
theorem TxSt.str (s : TxSt W1 l wr) {m : List UInt8} (h : BuilderAt W1.heap.size W1.heap.size (.pointer (some ⟨W1.heap.size, 0, none⟩)) (Lib.byteCells l ++ Lib.strCells ⟨m.toArray⟩) w') (hb : Below W1.heap.size wr w') : TxSt W1 (l ++ m) w' :=
  ⟨.inr (by rw [Lib.byteCells_append]; exact h), s.bel.trans hb⟩
theorem writeByte_tx (s : TxSt W1 l wr) (c : UInt8) (z : Int) (hz : z = c.toNat) (hl : l.length + 1 ≤ 140737488355328) :
    Calls Tryd.prog 73 #[.pointer (some ⟨W1.heap.size, 0, none⟩), .int .u8 z] wr fun e w' => e = .returned .nilIface ∧ TxSt W1 (l ++ [c]) w' := by
  refine (writeByte_any W1.heap.size W1.heap.size (Lib.byteCells l) z wr s.bld (by rw [Lib.byteCells_length]; exact hl) s.bel.size).mono ?_
  rintro e w' ⟨rfl, h, hb⟩
  exact ⟨rfl, s.byte hz h hb⟩
theorem writeString_tx (s : TxSt W1 l wr) (m : List UInt8) (hl : l.length + m.length ≤ 140737488355328) :
    Calls Tryd.prog 74 #[.pointer (some ⟨W1.heap.size, 0, none⟩), .string ⟨m.toArray⟩] wr fun e w' => (∃ n : Nat, e = .returned (.tuple #[.int .i64 n, .nilIface])) ∧ TxSt W1 (l ++ m) w' := by
  refine (writeString_any W1.heap.size W1.heap.size (Lib.byteCells l) ⟨m.toArray⟩ wr s.bld (by rw [Lib.byteCells_length]; exact hl) s.bel.size).mono ?_
  rintro e w' ⟨rfl, h, hb⟩
  exact ⟨⟨_, rfl⟩, s.str h hb⟩
end
theorem Tab.atBelow {w w' : World} {B : Nat} (h : Tab w) (hb : Below B w w') (hB : w.heap.size ≤ B) : Tab w' := h.below (hb.mono hB)
theorem txt_all {ds : List Nat} : txt ds 0 = Lib.decDigits (val BB ds) := by simp [txt]

set_option maxRecDepth 100000 in
set_option maxHeartbeats 3200000 in
theorem Text_any {x : Int} {u : Value} (w : World) (hx : IntV w u x) (hn : Sm x) (ht : Tab w) :
    Calls Tryd.prog 35 #[u] w (TextPost w x) := by
  generalize hP : TextPost w x = Post
  have HP := hide hP
  clear hP
  obtain ⟨a, ca, rfl, ha, hda⟩ := id hx
  have HX0 := hx
  clear hx
  have hX0 : Blk (w.alloc (.cells #[.bool (decide (x < 0)), .slice a (dg BB x.natAbs).length ca] 24)) w.heap.size 24 #[.bool (decide (x < 0)), .slice a (dg BB x.natAbs).length ca] := Blk.new w _ _
  have hB0 : Below w.heap.size w (w.alloc (.cells #[.bool (decide (x < 0)), .slice a (dg BB x.natAbs).length ca] 24)) := (Below.refl _ _).alloc (Nat.le_refl _) _
  go_enter Tryd.func35, Tryd.ntmps35
  go_wp2_with fail
  generalize w.alloc (.cells #[.bool (decide (x < 0)), .slice a (dg BB x.natAbs).length ca] 24) = W at hX0 hB0 ⊢
  have cxn := dg_canon BB2 x.natAbs
  have hsx : (dg BB x.natAbs).length ≤ 1099511627776 := hn
  have HV : Hid (val BB (dg BB x.natAbs) = x.natAbs) := hide (dg_val BB2 _)
  have HNX : Hid (decZ x = (if decide (x < 0) = true then [45] else []) ++ Lib.decDigits x.natAbs) := hide (by simp [decZ])
  refine (right_at HX0 hn hB0).mono ?_
  rintro e w1 ⟨rfl, hb1⟩
  have hX1 := hX0.below hb1 hX0.lt
  have hB1 : Below w.heap.size w w1 := hB0.trans (hb1.mono hB0.size)
  clear hX0 hB0 hb1
  generalize decide (x < 0) = nx at *
  generalize dg BB x.natAbs = dx at *
  have hX2 := hX1.two (.bool nx) (.slice a dx.length ca)
  have hB2 := (hB1.setCell (p := ⟨w.heap.size, 0, none⟩) (Nat.le_refl _) (.bool nx)).setCell (p := ⟨w.heap.size, 1, none⟩) (Nat.le_refl _) (.slice a dx.length ca)
  obtain ⟨c0, c1, cf⟩ := hX1.c2
  have hl1 := hX1.lt
  go_upto_region 2 with (fail)
  generalize (w1.setCell _ _).setCell _ _ = W1 at hX2 hB2 ⊢
  clear c0 c1 cf hX1 hB1 hl1
  obtain ⟨c0, c1, cf⟩ := hX2.c2
  have hda1 := hda.below hB2 (Nat.le_refl _)
  by_cases h0 : dx = []
  · subst h0
    simp only [List.length_nil] at c1 ⊢
    go_wp2_with fail
    rw [← HP.out]
    refine ⟨?_, hB2⟩
    have hz : x.natAbs = 0 := HV.out.symm
    have hx0 : x = 0 := by omega
    subst hx0
    rw [show decZ 0 = [48] by simp [decZ, Lib.decDigits_one (show 0 < 10 by decide)]]
    rfl
  · have hl0 : 0 < dx.length := List.length_pos_iff.2 h0
    have e0 : ((dx.length : Int) == 0) = false := by simp; omega
    have hX3 := hX2.alloc (.cells #[.pointer none, .slice none 0 0] 97)
    have hN3 := Blk.new W1 97 #[.pointer none, .slice none 0 0]
    have hB3 := (Below.refl W1.heap.size W1).alloc (Nat.le_refl _) (.cells #[.pointer none, .slice none 0 0] 97)
    have ht1 : Tab W1 := ht.atBelow hB2 (Nat.le_refl _)
    have s0 : TxSt W1 [] (W1.alloc (.cells #[.pointer none, .slice none 0 0] 97)) := ⟨Lib.fresh_isBuilder _ _ _, hB3⟩
    have c0' := (s0.bel.cell (p := ⟨w.heap.size, 0, none⟩) hX2.lt).trans c0
    obtain ⟨d0, d1, df⟩ := hX3.c2
    clear hN3
    go_upto_if 15 with (fail)
    generalize W1.alloc (.cells #[.pointer none, .slice none 0 0] 97) = W2 at hX3 hB3 s0 c0' d0 d1 df ⊢
    clear c0 c1 cf
    go_cut [] from 16 to 17 (fun wc => TxSt W1 (if nx = true then [45] else []) wc)
    case first =>
      cases nx with
      | true =>
        go_wp2_with fail
        refine (writeByte_tx s0 45 _ rfl (by decide)).mono ?_
        rintro e w3 ⟨rfl, s1⟩
        go_wp2_with fail
        go_meet
        exact s1
      | false =>
        go_wp2_with fail
        go_meet
        exact s0
    case rest =>
      have s1 : TxSt W1 (if nx = true then [45] else []) _ := hcut
      clear s0 c0' d0 d1 df hX3 hB3
      generalize hpre : (if nx = true then [45] else [] : List UInt8) = pre at s1
      have hpl : pre.length ≤ 1 := by rw [← hpre]; split <;> simp
      have HPRE := hide hpre
      clear hpre hcut
      obtain ⟨last, hlast⟩ : ∃ last, last + 1 = dx.length := ⟨dx.length - 1, by omega⟩
      obtain ⟨d0, d1, df⟩ := (hX2.below s1.bel hX2.lt).c2
      obtain ⟨ab, ao, rfl, hcl, hab⟩ := (hda1.below s1.bel (Nat.le_refl _)).at (i := last) (by omega)
      have i0 : ((dx.length : Int) - 1) = (last : Int) := by omega
      have hil : last < dx.length := by omega
      have hd9 : dx[last] < BB := cxn.1.at hil
      have hd64 : dx[last] < 18446744073709551616 := by have := hd9; rw [BB_eq] at this; omega
      have hnd := nDigits9 hd9
      have HTX := hide (txt_last hlast)
      clear hd9
      have HD := hide hd64
      generalize hdl : dx[last] = dl at *
      have HDL := hide hdl
      clear hdl hd64
      have hiu : IntKind.u64.wrap (dl : Int) = (dl : Int) := IntWalk.u64_in _ (by have := HD.out; omega)
      go_wp2_with fail
      refine (Fmt_any dl HD.out wc (ht1.atBelow s1.bel (Nat.le_refl _))).mono ?_
      rintro e w4 ⟨rfl, hb4⟩
      have s2 := s1.grow hb4
      clear d0 d1 df hcl
      go_wp2_with fail
      refine (writeString_tx s2 (Lib.decDigits dl) (by rw [Lib.decDigits_length]; omega)).mono ?_
      rintro e w5 ⟨⟨nn, rfl⟩, s3⟩
      rw [← HTX.out] at s3
      have hl3 : (pre ++ txt dx last).length ≤ 1 + 9 * (dx.length - last) := by rw [HTX.out, List.length_append, Lib.decDigits_length]; omega
      clear s1 s2 hb4
      go_wp2_with fail
      clear HTX HDL HD hiu hnd i0
      go_loopg [5] last (fun r v wr => v = .int .i64 ((r : Int) - 1) ∧ r < dx.length ∧ (pre ++ txt dx r).length ≤ 1 + 9 * (dx.length - r) ∧ TxSt W1 (pre ++ txt dx r) wr)
      case atStart => exact ⟨rfl, hil, hl3, s3⟩
      case round =>
        obtain ⟨rfl, hr, hlr, s⟩ := hrel
        clear s3 hl3
        cases gk with
        | zero =>
          go_wp2_with fail
          refine (string_any W1.heap.size W1.heap.size _ wr s.bld s.bel.size).mono ?_
          rintro e w6 ⟨rfl, hb6⟩
          go_wp2_with fail
          rw [← HP.out]
          refine ⟨?_, hB2.trans ((s.bel.trans hb6).mono hB2.size)⟩
          rw [HNX.out, HPRE.out, txt_all, HV.out]
          rfl
        | succ j =>
          have hj : j < dx.length := by omega
          obtain ⟨d0, d1, df⟩ := (hX2.below s.bel hX2.lt).c2
          obtain ⟨ab', ao', he, hcl, -⟩ := (hda1.below s.bel (Nat.le_refl _)).at hj
          obtain ⟨rfl, rfl⟩ : ab = ab' ∧ ao = ao' := by injection he with he; injection he with h1 h2; exact ⟨h1, h2⟩
          clear he
          have hd9 : dx[j] < BB := cxn.1.at hj
          have hd64 : dx[j] < 18446744073709551616 := by have := hd9; rw [BB_eq] at this; omega
          have hnd := nDigits9 hd9
          have HTX := hide (txt_step cxn hr)
          clear hd9
          have HD := hide hd64
          generalize hdl : dx[j] = dl at *
          have HDL := hide hdl
          clear hdl hd64
          have hiu : IntKind.u64.wrap (dl : Int) = (dl : Int) := IntWalk.u64_in _ (by have := HD.out; omega)
          have hj0 : ((j + 1 : Nat) : Int) - 1 = (j : Int) := by omega
          simp only [hj0]
          clear hj0
          go_wp2_with fail
          refine (Fmt_any dl HD.out wr (ht1.atBelow s.bel (Nat.le_refl _))).mono ?_
          rintro e w4 ⟨rfl, hb4⟩
          have s2 := s.grow hb4
          have hdl := Lib.decDigits_length dl
          clear d0 d1 df hcl s
          go_wp2_with fail
          go_loopg [7] (9 - Lib.nDigits dl) (fun r v wi => ∃ m, m + r = 9 - Lib.nDigits dl ∧ v = .int .i64 ((Lib.nDigits dl + m : Nat) : Int) ∧ TxSt W1 ((pre ++ txt dx (j + 1)) ++ List.replicate m 48) wi)
          case atStart => exact ⟨0, by omega, by simp, by simpa using s2⟩
          case round =>
            obtain ⟨m, hm, rfl, si⟩ := hrel
            clear s2
            rcases Nat.eq_zero_or_pos gk with h9 | h9
            · subst h9
              have e9 : Lib.nDigits dl + m = 9 := by omega
              have em : m = 9 - Lib.nDigits dl := by omega
              rw [e9]
              clear hm e9
              have hl5 : ((pre ++ txt dx (j + 1)) ++ List.replicate m 48).length + (Lib.decDigits dl).length ≤ 140737488355328 := by rw [List.length_append, List.length_replicate, Lib.decDigits_length]; omega
              have hl6 : (pre ++ txt dx j).length ≤ 1 + 9 * (dx.length - j) := by
                rw [HTX.out]; simp only [List.length_append, List.length_replicate, Lib.decDigits_length] at hlr ⊢; omega
              have HEM := hide em
              clear em
              go_wp2_with fail
              refine (writeString_tx si (Lib.decDigits dl) hl5).mono ?_
              rintro e w6 ⟨⟨n2, rfl⟩, s6⟩
              have s7 : TxSt W1 (pre ++ txt dx j) w6 := by rw [HTX.out, ← HEM.out]; simpa using s6
              clear s6 si hl5
              go_wp2_with fail
              go_roundg j
              case measure => omega
              case rel => exact ⟨rfl, hj, hl6, s7⟩
            · have e9 : decide (((Lib.nDigits dl + m : Nat) : Int) < 9) = true := by simp; omega
              have e10 : ((Lib.nDigits dl + m : Nat) : Int) < 9 := by omega
              have hl5 : ((pre ++ txt dx (j + 1)) ++ List.replicate m 48).length + 1 ≤ 140737488355328 := by rw [List.length_append, List.length_replicate]; omega
              have e11 : ((Lib.nDigits dl + m : Nat) : Int) + 1 = ((Lib.nDigits dl + (m + 1) : Nat) : Int) := by omega
              have hrep : List.replicate m (48 : UInt8) ++ [48] = List.replicate (m + 1) 48 := by rw [List.replicate_succ']
              have HREP := hide hrep
              clear hrep
              have hm1 : m + 1 + (gk - 1) = 9 - Lib.nDigits dl := by omega
              have HM := hide hm
              have HM1 := hide hm1
              clear hm hm1
              generalize hnm : ((Lib.nDigits dl + m : Nat) : Int) = nm at *
              have HNM := hide hnm
              clear hnm
              go_wp2_with fail
              refine (writeByte_tx si 48 _ rfl hl5).mono ?_
              rintro e w6 ⟨rfl, s6⟩
              rw [List.append_assoc, HREP.out] at s6
              clear si hl5
              go_wp2_with fail
              go_roundg (gk - 1)
              case measure => omega
              case rel => exact ⟨m + 1, HM1.out, rfl, s6⟩
end Go.Proofs.YthpibilefdmemaaDoor
