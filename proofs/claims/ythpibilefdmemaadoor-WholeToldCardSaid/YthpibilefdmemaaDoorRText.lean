/- collatorref01.Text: by its contract. -/
import Derived.Test.YthpibilefdmemaaDoorRArith
import Derived.Test.YthpibilefdmemaaDoorText
import Derived.Laws.IdiomStrings
namespace Go.Proofs.YthpibilefdmemaaDoor
open Go.RowKit

/-- A slice of bytes that is the call's own. -/
def OwnY (w : World) (base : Nat) (v : Value) (l : List UInt8) : Prop := w.ownsRow base 5 1 v l.length (Lib.byteCells l)
theorem infoY : (Tryd.prog.info? 5).map (fun i => (i.zero, i.size, i.bytes)) = some (some (.int .u8 0), 1, 1) := by kernel_rfl
theorem byteCellsY_app (a b : List UInt8) : Lib.byteCells (a ++ b) = Lib.byteCells a ++ Lib.byteCells b := by simp [Lib.byteCells]
theorem byteCellsY_one (l : List UInt8) : ∀ u ∈ Lib.byteCells l, u.oneCell' = true := by
  intro u hu
  simp [Lib.byteCells] at hu
  obtain ⟨x, _, rfl⟩ := hu
  rfl
theorem ownY_empty (w : World) : OwnY (w.alloc (.cells #[] 5)) w.heap.size (.slice (some ⟨w.heap.size, 0, none⟩) 0 0) [] :=
  World.ownsRow_made w #[] 0 (Nat.le_refl _) (by decide) rfl
theorem OwnY.alloc {w : World} {base : Nat} {v : Value} {ds : List UInt8} (h : OwnY w base v ds) (o : Obj) : OwnY (w.alloc o) base v ds := World.ownsRow.alloc h o
theorem ownY_slice {w : World} {base : Nat} {v : Value} {l : List UInt8} (h : OwnY w base v l) : ∃ a c, v = .slice a l.length c := by
  rcases h.2 with ⟨hv, h0⟩ | ⟨g, c, cur, hv, _⟩
  · exact ⟨none, 0, by rw [hv, h0]⟩
  · exact ⟨_, _, hv⟩
theorem wpList_append_byt {w : World} {ops : Array Oper} {rest : List Oper} {o : Oper} {a : Act} {Q : Exit → Act → World → Prop} (hgd : o.guard = none) (s x : Operand)
    (ho : o.op = .call { callee := .builtin .append, args := #[s, x], argTypes := #[95, 95] })
    (base : Nat) (v : Value) (l : List UInt8) (hs : a.eval s = v) (hown : OwnY w base v l) (ad : Addr) (c : UInt8) (hx : a.eval x = .slice (some ad) 1 1) (hc : w.cell? (ad.add 0) = some (.int .u8 (c.toNat : Int)))
    (hlen : l.length + 1 ≤ 140737488355328) (hbase : base ≤ w.heap.size)
    (h : ∀ v' w', OwnY w' base v' (l ++ [c]) → Below base w w' → wpList Tryd.prog ops Q rest (a.put o.dst v') w') : wpList Tryd.prog ops Q (o :: rest) a w := by
  obtain ⟨i0, hi0, hz0, hz1, hz2⟩ := info_parts infoY
  have hnews : ∀ j u, (Lib.byteCells [c])[j]? = some u → w.cell? (ad.add j) = some u := by
    intro j u hj
    rcases j with _ | j
    · simp [Lib.byteCells] at hj; rw [hc, hj]
    · simp [Lib.byteCells] at hj
  refine wpList_append_own w hgd s x 95 ho base 5 i0 (.int .u8 0) 1 1 Tryd.underlying95 hi0 hz0 hz1 hz2 rfl (by decide) v l.length (Lib.byteCells l) hs hown ad 1 1 (Lib.byteCells [c]) hx rfl hnews (byteCellsY_one _) (by unfold maxLen; omega) (by omega) hbase (fun v' w' h2 h3 _ => ?_)
  refine h v' w' ?_ (below_of_grown h3 (fun g hg => (World.ownsRow.lt hown g hg).1) hbase)
  unfold OwnY
  rw [byteCellsY_app, List.length_append]
  exact h2
theorem ownY_string {w : World} {base : Nat} {a : Option Addr} {c : Nat} {l : List UInt8} (h : OwnY w base (.slice a l.length c) l) (hl : 0 < l.length) :
    (convert 95 9 (.slice a l.length c)).run Tryd.prog w = .ok (.string ⟨l.toArray⟩) w := by
  rcases h.2 with ⟨_, h0⟩ | ⟨g, c', cur, hv, hb, hg, hle, hmx, hsz, htk⟩
  · omega
  · simp only [Value.slice.injEq] at hv
    obtain ⟨rfl, -, rfl⟩ := hv
    refine run_convert_bytes_back (P := Tryd.prog) w 95 9 5 ⟨g, 0, none⟩ c l Tryd.underlying95 Tryd.underlying5 Tryd.underlying9 (fun j hj => ?_)
    exact World.ownsRow.cells h (g := g) rfl j (.int .u8 (l[j].toNat : Int)) (by simp [Lib.byteCells, List.getElem?_eq_getElem hj])

/-- The text of the decimal digits from the greatest one down to j. -/
def rtx (ds : List Nat) (j : Nat) : List UInt8 := if ds.length ≤ j then [] else Lib.decDigits (val 10 (ds.drop j))
theorem rtx_end (ds : List Nat) : rtx ds ds.length = [] := if_pos (Nat.le_refl _)
theorem rtx_step {ds : List Nat} (hc : Canon 10 ds) {j : Nat} (hj : j < ds.length) : rtx ds j = rtx ds (j + 1) ++ [UInt8.ofNat (48 + ds[j])] := by
  have h9 : ds[j] < 10 := hc.1.at hj
  unfold rtx
  rw [if_neg (show ¬ ds.length ≤ j by omega), List.drop_eq_getElem_cons hj]
  show Lib.decDigits (ds[j] + 10 * val 10 (ds.drop (j + 1))) = _
  by_cases hl : ds.length ≤ j + 1
  · rw [if_pos hl, List.drop_of_length_le hl]
    simp [val, Lib.decDigits_one h9]
  · rw [if_neg hl]
    have hp : 0 < val 10 (ds.drop (j + 1)) := by
      refine Canon.pos (by decide) ⟨hc.1.drop (j + 1), ?_⟩ (by intro h; rw [List.drop_eq_nil_iff] at h; omega)
      rw [List.getLast?_drop, if_neg (by omega)]
      exact hc.2
    generalize val 10 (ds.drop (j + 1)) = V at hp
    rw [Lib.decDigits, dif_neg (by omega), show (ds[j] + 10 * V) / 10 = V by omega, show (ds[j] + 10 * V) % 10 = ds[j] by omega]
theorem rtx_len {ds : List Nat} (hc : Canon 10 ds) : ∀ k j, j + k = ds.length → (rtx ds j).length = k
  | 0, j, h => by obtain rfl : j = ds.length := by omega
                  rw [rtx_end]; rfl
  | k + 1, j, h => by rw [rtx_step hc (by omega), List.length_append, rtx_len hc k (j + 1) (by omega)]; rfl
theorem rtx_zero {n : Nat} (h : dg 10 n ≠ []) : rtx (dg 10 n) 0 = Lib.decDigits n := by
  have : 0 < (dg 10 n).length := List.length_pos_iff.2 h
  unfold rtx
  rw [if_neg (by omega), List.drop_zero, dg_val T2]

set_option maxRecDepth 100000 in
set_option maxHeartbeats 1600000 in
theorem RText_any {x : Int} {v : Value} (w : World) (hx : NumV w v x) (hn : Dm x) :
    Calls Tryd.prog 36 #[v] w (TextPost w x) := by
  generalize hP : TextPost w x = Post
  have HP := hide hP
  clear hP
  obtain ⟨a, cap, rfl, hf, hd⟩ := hx
  have hX := dg_canon T2 x.natAbs
  have HZ : Hid (dg 10 x.natAbs ≠ [] → rtx (dg 10 x.natAbs) 0 = Lib.decDigits x.natAbs) := hide rtx_zero
  have HN : Hid (dg 10 x.natAbs = [] → x = 0) := hide (fun h => by have := (dg_eq_nil T2).1 h; omega)
  have HD : Hid (decZ x = (if decide (x < 0) = true then [45] else []) ++ Lib.decDigits x.natAbs) := hide (by simp [decZ])
  have HNE : Hid (decide (x < 0) = true → dg 10 x.natAbs ≠ []) := hide (fun h e => by have := (dg_eq_nil T2).1 e; simp at h; omega)
  unfold Dm dlen at hn
  generalize dg 10 x.natAbs = X at *
  generalize decide (x < 0) = neg at *
  obtain ⟨W, hW⟩ : ∃ W, ((w.alloc (.cells #[.bool neg, .slice a X.length cap] 30))).alloc (.cells #[] 5) = W := ⟨_, rfl⟩
  have hZ : Blk W w.heap.size 30 #[.bool neg, .slice a X.length cap] := by rw [← hW]; exact ((Blk.new w _ _).alloc _)
  have hB : Below w.heap.size w W := by rw [← hW]; exact ((Below.refl _ _).alloc (Nat.le_refl _) _).alloc (by simp) _
  have hO : OwnY W (w.heap.size + 1) (.slice (some ⟨w.heap.size + 1, 0, none⟩) 0 0) [] := by rw [← hW]; have h := ownY_empty (w.alloc (.cells #[.bool neg, .slice a X.length cap] 30)); simpa using h
  have hsz : w.heap.size + 1 ≤ W.heap.size := by rw [← hW]; simp
  have HW := hide hW
  have hd0 := hd.below hB (Nat.le_refl _)
  have hdlt : 0 < X.length → ∃ b o, a = some ⟨b, o, none⟩ ∧ b < w.heap.size := fun h => by
    obtain ⟨b, o, e, _, hl⟩ := hd.at h
    exact ⟨b, o, e, hl⟩
  clear hW hd hf
  go_enter Tryd.func36, Tryd.ntmps36
  obtain ⟨z0, z1, -⟩ := hZ.c2
  go_upto_region 2 with (fail)
  rw [HW.out]
  clear HW
  go_upto_if 7 with (fail)
  go_cut [3] from 8 to 10 (fun v3 wc => OwnY wc (w.heap.size + 1) v3 (if neg = true then [45] else [] : List UInt8) ∧ Below (w.heap.size + 1) W wc)
  case first =>
    cases neg with
    | true =>
      have ho1 := hO.alloc (.cells #[.int .u8 45] 5)
      go_wp2_with (at_builtin; refine wpList_append_byt rfl (.tmp 8) (.tmp 9) rfl (w.heap.size + 1) _ [] rfl ho1 ⟨_, 0, none⟩ 45 rfl ?c1 ?c2 ?c3 ?_)
      case c3 => first | omega | (simp; omega) | (simp only [World.size_alloc]; omega)
      intro v' w2 ho2 hb2
      have hb3 : Below (w.heap.size + 1) W w2 := ((Below.refl _ _).alloc hsz _).trans hb2
      go_wp2_with fail
      go_meet
      exact ⟨ho2, hb3⟩
    | false =>
      go_wp2_with fail
      go_meet
      exact ⟨hO, Below.refl _ _⟩
  case rest =>
    rename_i v3 wc
    obtain ⟨hO3, hbc⟩ := hcut
    clear hO
    generalize hpre : (if neg = true then [45] else [] : List UInt8) = pre at *
    have HPRE := hide hpre
    have hpl : pre.length ≤ 1 := by rw [← hpre]; split <;> simp
    clear hpre
    obtain ⟨z0, z1, -⟩ := (hZ.below hbc (by omega)).c2
    go_wp2_with fail
    go_loopg [3, 4] X.length (fun k v i wr => ∃ (txt : List UInt8), k ≤ X.length ∧ i = .int .i64 ((k : Int) - 1) ∧ Hid (txt = pre ++ rtx X k) ∧ txt.length = pre.length + (X.length - k) ∧ OwnY wr (w.heap.size + 1) v txt ∧ Below (w.heap.size + 1) W wr)
    case atStart => exact ⟨pre, Nat.le_refl _, rfl, hide (by rw [rtx_end, List.append_nil]), by omega, hO3, hbc⟩
    case round =>
      obtain ⟨t, hk, rfl, HT, htl, ho, hbw⟩ := hrel
      clear hO3 hbc z0 z1
      have HTL := hide htl
      clear htl
      obtain ⟨z0, z1, -⟩ := (hZ.below hbw (by omega)).c2
      have hBW : Below w.heap.size w wr := hB.trans (hbw.mono (by omega))
      rcases gk with _ | j
      · obtain ⟨ra, rc, rfl⟩ := ownY_slice ho
        rcases Nat.eq_zero_or_pos X.length with hl0 | hl0
        · have hX0 : X = [] := List.eq_nil_of_length_eq_zero hl0
          have HX0 := hide hX0
          have HL0 := hide hl0
          have hne : neg = false := by cases neg with
            | false => rfl
            | true => exact absurd hX0 (HNE.out rfl)
          have HNG := hide hne
          have hx0 := HN.out hX0
          have HX := hide hx0
          rw [hl0] at z1
          clear hX0 hl0 hne hx0
          go_wp2_with fail
          rw [← HP.out, HX.out]
          exact ⟨by rw [show decZ 0 = [48] by simp [decZ, Lib.decDigits_one (show 0 < 10 by decide)]]; rfl, hBW⟩
        · have htp : 0 < t.length := by have := HTL.out; omega
          have hcv := ownY_string ho htp
          have hxe : X ≠ [] := List.length_pos_iff.1 hl0
          have HTX : Hid (t = decZ x) := hide (by rw [HT.out, HD.out, HZ.out hxe])
          have e0 : decide (X.length = 0) = false := decide_eq_false (by omega)
          have e1 : ((X.length : Int) == 0) = false := beq_eq_false_iff_ne.2 (by omega)
          go_wp2_with fail
          rw [← HP.out]
          exact ⟨by rw [← HTX.out]; rfl, hBW⟩
      · obtain ⟨b1, o1, ha, hlb⟩ := hdlt (by omega)
        obtain ⟨b2, o2, ha2, hc1, hl1⟩ := hd0.at (show j < X.length by omega)
        rw [ha] at ha2
        obtain ⟨rfl, rfl⟩ : b1 = b2 ∧ o1 = o2 := by simpa using ha2
        subst ha
        replace hc1 := (hbw.cell (p := ⟨b1, o1 + j, none⟩) (by show b1 < _; omega)).trans hc1
        have hd9 := hX.1.at (show j < X.length by omega)
        have HS := hide (rtx_step hX (show j < X.length by omega))
        generalize X[j] = d at hc1 hd9 HS
        have hcc : ((UInt8.ofNat (48 + d)).toNat : Int) = 48 + (d : Int) := by
          rw [UInt8.toNat_ofNat_of_lt' (show 48 + d < 256 by omega)]; omega
        generalize UInt8.ofNat (48 + d) = c at HS hcc
        have HCC := hide hcc
        have ho1 := ho.alloc (.cells #[.int .u8 (48 + (d : Int))] 5)
        have hle1 : w.heap.size + 1 ≤ wr.heap.size := Nat.le_trans hsz hbw.size
        have e1 : ((j + 1 : Nat) : Int) - 1 = (j : Int) := by omega
        rw [e1]
        clear hcc e1 hdlt
        go_wp2_with (at_builtin; refine wpList_append_byt rfl (.tmp 19) (.tmp 27) rfl (w.heap.size + 1) _ t rfl ho1 ⟨_, 0, none⟩ c rfl ?d1 ?d2 ?d3 ?_)
        case d1 => first | (have := HCC.out; omega) | (rw [add_plain, HCC.out]; exact (Blk.new _ _ _).cell 0)
        case d2 => have := HTL.out; omega
        case d3 => first | omega | (simp; omega) | (simp only [World.size_alloc]; omega)
        intro v' w2 ho2 hb2
        have hb3 : Below (w.heap.size + 1) wr w2 := ((Below.refl _ _).alloc hle1 _).trans hb2
        go_wp2_with fail
        go_roundg j
        case measure => omega
        case rel => exact ⟨_, by omega, rfl, hide (by rw [HT.out, HS.out, List.append_assoc]), by have := HTL.out; simp; omega, ho2, hbw.trans hb3⟩
end Go.Proofs.YthpibilefdmemaaDoor
