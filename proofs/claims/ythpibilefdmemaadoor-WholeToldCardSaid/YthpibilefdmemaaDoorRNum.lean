/- Decimal digits in memory; a number of the document by its value. -/
import Derived.Test.YthpibilefdmemaaDoorTwo
namespace Go.Proofs.YthpibilefdmemaaDoor
open Go.RowKit

theorem size_i64 (w : World) : (sizeOf 3).run Tryd.prog w = .ok 1 w := by kernel_rfl
theorem elem64 : Tryd.prog.elem 28 = 3 := by kernel_rfl
theorem run_upto64 (w : World) (a : Option Addr) (len cap h : Nat) (y : Int) (hy : y = (h : Int)) (h2 : h ≤ cap) :
    (Instr.slice 28 (.slice a len cap) none (some (.int .i64 y)) none).run Tryd.prog w = .ok (.slice a h cap) w :=
  run_upto w 28 1 (by rw [elem64]; exact Tryd.underlying28) (by rw [elem64]; exact size_i64 w) a len cap h y hy h2
theorem info64 : (Tryd.prog.info? 3).map (fun i => (i.zero, i.size, i.bytes)) = some (some (.int .i64 0), 1, 8) := by kernel_rfl

/-- A slice of digits that is the call's own. -/
def OwnE (w : World) (base : Nat) (v : Value) (ds : List Nat) : Prop := w.ownsRow base 3 1 v ds.length (dcells .i64 ds)

theorem OwnE.nil (w : World) (base : Nat) : OwnE w base (.slice none 0 0) [] := ⟨rfl, .inl ⟨rfl, rfl⟩⟩
theorem OwnE.alloc {w : World} {base : Nat} {v : Value} {ds : List Nat} (h : OwnE w base v ds) (o : Obj) : OwnE (w.alloc o) base v ds := World.ownsRow.alloc h o
theorem OwnE.below {w w' : World} {base : Nat} {v : Value} {ds : List Nat} (h : OwnE w base v ds) (hb : Below w.heap.size w w') : OwnE w' base v ds :=
  h.kept (row := none) ⟨hb.os, hb.tape, hb.output, hb.size, fun i hi _ => hb.block i hi⟩ (by cases v.ownBlock <;> simp)

theorem wpList_make_int {w : World} {ops : Array Oper} {rest : List Oper} {o : Oper} {a : Act} {Q : Exit → Act → World → Prop} (hgd : o.guard = none) (l c : Operand) (ho : o.op = Op.makeSlice 28 l c)
    (C : Int) (n : Nat) (hl : a.eval l = .int .i64 0) (hc : a.eval c = .int .i64 C) (hC : C = (n : Int)) (hn : n ≤ 2199023255552)
    (hK : ∀ w' v, OwnE w' w.heap.size v [] → Below w.heap.size w w' → wpList Tryd.prog ops Q rest (a.put o.dst v) w') : wpList Tryd.prog ops Q (o :: rest) a w := by
  obtain ⟨i0, hi0, hz0, hz1, hz2⟩ := info_parts info64
  refine wpList_make_own w hgd l c 28 ho w.heap.size 3 i0 (.int .i64 0) 1 Tryd.underlying28 hi0 hz0 hz1 .i64 .i64 C n hl hc hC (by rw [hz2]; omega) (by unfold maxLen; omega) (Nat.le_refl _) (fun w' h1 h2 => hK w' _ h1 (below_of_grown h2 (fun g h => by cases h) (Nat.le_refl _)))

theorem wpList_append_int {w : World} {ops : Array Oper} {rest : List Oper} {o : Oper} {a : Act} {Q : Exit → Act → World → Prop} (hgd : o.guard = none) (s x : Operand)
    (ho : o.op = .call { callee := .builtin .append, args := #[s, x], argTypes := #[28, 28] })
    (base : Nat) (v : Value) (ds : List Nat) (hs : a.eval s = v) (hown : OwnE w base v ds) (ad : Addr) (d : Nat) (hx : a.eval x = .slice (some ad) 1 1) (hc : w.cell? (ad.add 0) = some (.int .i64 (d : Int)))
    (hlen : ds.length + 1 ≤ 2199023255552) (hbase : base ≤ w.heap.size)
    (h : ∀ v' w', OwnE w' base v' (ds ++ [d]) → Below base w w' → wpList Tryd.prog ops Q rest (a.put o.dst v') w') : wpList Tryd.prog ops Q (o :: rest) a w := by
  obtain ⟨i0, hi0, hz0, hz1, hz2⟩ := info_parts info64
  have hnews : ∀ j u, (dcells .i64 [d])[j]? = some u → w.cell? (ad.add j) = some u := by
    intro j u hj
    rcases j with _ | j
    · simp [dcells] at hj; rw [hc, hj]
    · simp [dcells] at hj
  refine wpList_append_own w hgd s x 28 ho base 3 i0 (.int .i64 0) 1 8 Tryd.underlying28 hi0 hz0 hz1 hz2 rfl (by decide) v ds.length (dcells .i64 ds) hs hown ad 1 1 (dcells .i64 [d]) hx rfl hnews (dcells_one _ _) (by unfold maxLen; omega) (by omega) hbase (fun v' w' h2 h3 _ => ?_)
  refine h v' w' ?_ (below_of_grown h3 (fun g hg => (World.ownsRow.lt hown g hg).1) hbase)
  unfold OwnE
  rw [dcells_app, List.length_append]
  exact h2

/-- 'append(v, x...)', v the call's own, x nil or not. -/
theorem wpList_append_isrc {w : World} {ops : Array Oper} {rest : List Oper} {o : Oper} {a : Act} {Q : Exit → Act → World → Prop} (hgd : o.guard = none) (s x : Operand)
    (ho : o.op = .call { callee := .builtin .append, args := #[s, x], argTypes := #[28, 28] })
    (base : Nat) (v : Value) (ds : List Nat) (hs : a.eval s = v) (hown : OwnE w base v ds) (A : Option Addr) (c : Nat) (es : List Nat) (hx : a.eval x = .slice A es.length c) (hfit : Fit A es.length c) (hd : Dg .i64 w A es)
    (hlen : ds.length + es.length ≤ 2199023255552) (hbase : base ≤ w.heap.size)
    (h : ∀ v' w', OwnE w' base v' (ds ++ es) → Below base w w' → wpList Tryd.prog ops Q rest (a.put o.dst v') w') : wpList Tryd.prog ops Q (o :: rest) a w := by
  obtain ⟨i0, hi0, hz0, hz1, hz2⟩ := info_parts info64
  cases A with
  | none =>
    obtain ⟨h1, h2⟩ := hfit
    have hc := h2 rfl
    subst hc
    obtain rfl : es = [] := List.eq_nil_of_length_eq_zero (by omega)
    exact wpList_append_own_none hgd s x 28 ho base 3 i0 1 Tryd.underlying28 hi0 v ds.length (dcells .i64 ds) hs hown hx (h v w (by simpa using hown) (Below.refl _ _))
  | some ad =>
    have hnews : ∀ j u, (dcells .i64 es)[j]? = some u → w.cell? (ad.add j) = some u := by
      intro j u hj
      have hjl : j < es.length := by
        have := (List.getElem?_eq_some_iff.1 hj).1
        rwa [dcells_len] at this
      obtain ⟨b, off, e, hc⟩ := hd (by omega)
      obtain rfl : ad = ⟨b, off, none⟩ := Option.some.inj e
      rw [add_plain, hc j hjl]
      unfold dcells at hj
      rw [List.getElem?_map, List.getElem?_eq_getElem hjl] at hj
      exact hj
    refine wpList_append_own w hgd s x 28 ho base 3 i0 (.int .i64 0) 1 8 Tryd.underlying28 hi0 hz0 hz1 hz2 rfl (by decide) v ds.length (dcells .i64 ds) hs hown ad es.length c (dcells .i64 es) hx (by rw [dcells_len]; omega) hnews (dcells_one _ _) (by unfold maxLen; omega) (by omega) hbase (fun v' w' h2 h3 _ => ?_)
    refine h v' w' ?_ (below_of_grown h3 (fun g hg => (World.ownsRow.lt hown g hg).1) hbase)
    unfold OwnE
    rw [dcells_app, List.length_append]
    exact h2


/-- A number of the document, by its value. -/
def NumV (w : World) (v : Value) (z : Int) : Prop :=
  ∃ a cap, v = .agg #[.bool (decide (z < 0)), .slice a (dg 10 z.natAbs).length cap] ∧ Fit a (dg 10 z.natAbs).length cap ∧ Dg .i64 w a (dg 10 z.natAbs)
/-- How many decimal digits a number has. -/
def dlen (z : Int) : Nat := (dg 10 z.natAbs).length
/-- What a function leaves that computes a number of the document. -/
def NumPost (w : World) (z : Int) (e : Ending) (w' : World) : Prop := ∃ r, e = .returned r ∧ NumV w' r z ∧ Below w.heap.size w w'
/-- What a function leaves that computes decimal digits: of the number n, at most L of them. -/
def DecPost (w : World) (n L : Nat) (e : Ending) (w' : World) : Prop :=
  ∃ a cap ds, e = .returned (.slice a ds.length cap) ∧ Fit a ds.length cap ∧ Dg .i64 w' a ds ∧ Digs 10 ds ∧ val 10 ds = n ∧ ds.length ≤ L ∧ Below w.heap.size w w'
theorem T2 : 2 ≤ 10 := by decide
theorem NumV.below {w w' : World} {B : Nat} {v : Value} {z : Int} (h : NumV w v z) (hb : Below B w w') (hB : w.heap.size ≤ B) : NumV w' v z := by
  obtain ⟨a, cap, e, hc, hd⟩ := h
  exact ⟨a, cap, e, hc, hd.below hb hB⟩
theorem NumV.drewN {w : World} {v : Value} {z : Int} (h : NumV w v z) (n : Nat) : NumV (w.drewN n) v z := h
theorem NumV.zero (w : World) : NumV w (.agg #[.bool false, .slice none 0 0]) 0 := ⟨none, 0, rfl, ⟨Nat.zero_le _, fun _ => rfl⟩, Dg.nil _ _⟩
theorem NumV.parts {w : World} {v : Value} {z : Int} (h : NumV w v z) : ∃ (n : Bool) (a : Option Addr) (l k : Nat), v = .agg #[.bool n, .slice a l k] := by
  obtain ⟨a, cap, e, _, _⟩ := h
  exact ⟨_, _, _, _, e⟩
/-- The number of a sign and digits that are trimmed. -/
theorem numV_of {w : World} {neg : Bool} {a : Option Addr} {cap : Nat} {ds : List Nat} (h : Digs 10 ds) (hd : Dg .i64 w a (trim ds)) (hf : Fit a (trim ds).length cap) :
    NumV w (.agg #[.bool (neg && decide (0 < (trim ds).length)), .slice a (trim ds).length cap]) (signZ neg (val 10 ds)) := by
  have e : (signZ neg (val 10 ds)).natAbs = val 10 ds := by cases neg <;> simp [signZ]
  have e2 : dg 10 (signZ neg (val 10 ds)).natAbs = trim ds := by rw [e, trim_dg T2 h]
  have e3 : (neg && decide (0 < (trim ds).length)) = decide (signZ neg (val 10 ds) < 0) := by
    have hz : trim ds = [] ↔ val 10 ds = 0 := by rw [trim_dg T2 h]; exact dg_eq_nil T2
    cases neg with
    | false => simp [signZ]
    | true =>
      rw [Bool.eq_iff_iff]
      simp only [Bool.true_and, decide_eq_true_eq, signZ, if_true]
      constructor
      · intro h1
        have : val 10 ds ≠ 0 := fun h2 => by rw [hz.2 h2] at h1; simp at h1
        omega
      · intro h1
        rcases Nat.eq_zero_or_pos (trim ds).length with h2 | h2
        · have := hz.1 (List.eq_nil_of_length_eq_zero h2); omega
        · exact h2
  exact ⟨a, cap, by rw [e2, e3], by rw [e2]; exact hf, by rw [e2]; exact hd⟩
theorem Dg.trim {k : IntKind} {w : World} {a : Option Addr} {ds : List Nat} (h : Dg k w a ds) : Dg k w a (trim ds) := by
  obtain ⟨m, _, e⟩ := (trim_facts 10 _ ds rfl).2.2
  rw [e]
  exact h.take m
theorem Fit.trim {a : Option Addr} {cap : Nat} {ds : List Nat} (h : Fit a ds.length cap) : Fit a (trim ds).length cap := ⟨Nat.le_trans (trim_len ds) h.1, h.2⟩

set_option maxHeartbeats 800000 in
theorem rcut_any (a : Option Addr) (cap : Nat) (ds : List Nat) (w : World) (hd : Dg .i64 w a ds) (hf : Fit a ds.length cap) (hn : ds.length ≤ 2199023255552) :
    Calls Tryd.prog 67 #[.slice a ds.length cap] w fun e w' => e = .returned (.slice a (trim ds).length cap) ∧ w = w' := by
  generalize hr : (trim ds).length = r
  have HR := hide hr
  clear hr
  obtain ⟨hfc, -⟩ := hf
  go_enter Tryd.func67, Tryd.ntmps67
  go_wp2_with fail
  go_loop [3] (fun v => ∃ j : Nat, j ≤ ds.length ∧ v = .int .i64 (j : Int) ∧ Hid (trim ds = trim (ds.take j))) (fun v => (intOf v).toNat)
  case atStart => exact ⟨ds.length, Nat.le_refl _, rfl, hide (by rw [List.take_length])⟩
  case round =>
    obtain ⟨j, hj, rfl, HT⟩ := hrel
    rcases Nat.eq_zero_or_pos j with h0 | h0
    · subst h0
      have hz : r = 0 := by rw [← HR.out, HT.out]; rfl
      subst hz
      have hs1 := fun w => run_upto64 w a ds.length cap 0 0 rfl (by omega)
      go_wp2_with fail
      go_ret
      exact ⟨rfl, rfl⟩
    · obtain ⟨i, rfl⟩ : ∃ i, j = i + 1 := ⟨j - 1, by omega⟩
      have hi : i < ds.length := by omega
      obtain ⟨b, off, rfl, hc, _⟩ := hd.at hi
      have hpos : decide ((0 : Int) < ((i + 1 : Nat) : Int)) = true := by simp
      by_cases hz : ds[i] = 0
      · have HT2 : Hid (trim ds = trim (ds.take i)) := hide (by rw [HT.out, trim_take hi hz])
        rw [hz] at hc
        go_wp2_with fail
        go_round
        case rel => exact ⟨i, by omega, by go_num, HT2⟩
        case measure => simp [intOf]
      · have HT2 : Hid (trim ds = ds.take (i + 1)) := hide (by rw [HT.out, trim_take_self hi hz])
        have e1 : ((ds[i] : Int) == 0) = false := beq_eq_false_iff_ne.2 (by omega)
        have er : r = i + 1 := by rw [← HR.out, HT2.out, List.length_take]; omega
        subst er
        have hs1 := fun w => run_upto64 w (some ⟨b, off, none⟩) ds.length cap (i + 1) ((i + 1 : Nat) : Int) rfl (by omega)
        generalize ds[i] = d at hc e1
        go_wp2_with fail
        go_ret
        exact ⟨rfl, rfl⟩

set_option maxHeartbeats 800000 in
theorem make1_any (neg : Bool) (a : Option Addr) (cap : Nat) (ds : List Nat) (w : World) (hd : Dg .i64 w a ds) (hD : Digs 10 ds) (hf : Fit a ds.length cap) (hn : ds.length ≤ 2199023255552) :
    Calls Tryd.prog 62 #[.bool neg, .slice a ds.length cap] w (NumPost w (signZ neg (val 10 ds))) := by
  generalize hP : NumPost w (signZ neg (val 10 ds)) = Post
  have HP := hide hP
  clear hP
  have hX := Blk.new w 30 #[.bool false, .slice none 0 0]
  have hb0 : Below w.heap.size w (w.alloc (.cells #[.bool false, .slice none 0 0] 30)) := (Below.refl _ _).alloc (Nat.le_refl _) _
  have hd0 := hd.below hb0 (Nat.le_refl _)
  go_enter Tryd.func62, Tryd.ntmps62
  go_wp2_with fail
  generalize w.alloc (.cells #[.bool false, .slice none 0 0] 30) = W at hb0 hX hd0 ⊢
  refine (rcut_any a cap ds W hd0 hf hn).mono ?_
  rintro e w1 ⟨rfl, rfl⟩
  have hV := numV_of (neg := neg) hD (hd.trim) hf.trim
  have HV := hide hV
  have hl := trim_len ds
  clear hV
  obtain ⟨c0, c1, cf⟩ := hX.c2
  have hlt := hX.lt
  have cf0 := cf 0
  have cf1 := cf 1
  generalize (trim ds).length = r at *
  have hB2 := fun (u : Value) => (hb0.setCell (p := ⟨w.heap.size, 0, none⟩) (Nat.le_refl _) u).setCell (p := ⟨w.heap.size, 1, none⟩) (Nat.le_refl _) (.slice a r cap)
  have HB2 := hide hB2
  clear hB2
  cases neg with
  | false =>
    obtain ⟨d0, d1, -⟩ := (hX.two (.bool false) (.slice a r cap)).c2
    go_wp2_with fail
    refine bodyPost_ret (v := .agg #[.bool false, .slice a r cap]) (by simp [results, Tryd.results62, go_sem, d0, d1]) rfl ?_
    rw [← HP.out]
    exact ⟨_, rfl, HV.out.below (HB2.out _) (Nat.le_refl _), HB2.out _⟩
  | true =>
    obtain ⟨d0, d1, -⟩ := (hX.two (.bool (decide (0 < r))) (.slice a r cap)).c2
    go_wp2_with fail
    refine bodyPost_ret (v := .agg #[.bool (decide (0 < r)), .slice a r cap]) (by simp [results, Tryd.results62, go_sem, d0, d1]) rfl ?_
    rw [← HP.out]
    exact ⟨_, rfl, HV.out.below (HB2.out _) (Nat.le_refl _), HB2.out _⟩
end Go.Proofs.YthpibilefdmemaaDoor
