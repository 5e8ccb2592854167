/- whole.Mul: by its contract. -/
import Derived.Test.YthpibilefdmemaaDoorNeg
import Derived.Test.YthpibilefdmemaaDoorMulLaw
namespace Go.Proofs.YthpibilefdmemaaDoor
open Go.RowKit

theorem sign_mul (x y : Int) : signZ (decide (x < 0) != decide (y < 0)) (x.natAbs * y.natAbs) = x * y := by
  unfold signZ
  rcases Int.lt_or_le x 0 with hx | hx <;> rcases Int.lt_or_le y 0 with hy | hy
  · simp only [hx, hy, decide_true, bne_self_eq_false, Bool.false_eq_true, if_false]
    rw [← Int.natAbs_mul]
    have : 0 < x * y := Int.mul_pos_of_neg_of_neg hx hy
    omega
  · have h1 : ¬ y < 0 := by omega
    simp only [hx, h1, decide_true, decide_false, bne]
    rw [← Int.natAbs_mul]
    have : x * y ≤ 0 := Int.mul_nonpos_of_nonpos_of_nonneg (by omega) hy
    simp; omega
  · have h1 : ¬ x < 0 := by omega
    simp only [hy, h1, decide_true, decide_false, bne]
    rw [← Int.natAbs_mul]
    have : x * y ≤ 0 := Int.mul_nonpos_of_nonneg_of_nonpos hx (by omega)
    simp; omega
  · have h1 : ¬ x < 0 := by omega
    have h2 : ¬ y < 0 := by omega
    simp only [h1, h2, decide_false, bne_self_eq_false, Bool.false_eq_true, if_false]
    rw [← Int.natAbs_mul]
    have : 0 ≤ x * y := Int.mul_nonneg hx hy
    omega

set_option maxRecDepth 100000 in
set_option maxHeartbeats 3200000 in
theorem Mul_any {x y : Int} {u v : Value} (w : World) (hx : IntV w u x) (hy : IntV w v y) (hn : Sm x) (hm : Sm y) :
    Calls Tryd.prog 27 #[u, v] w (IntPost w (x * y)) := by
  generalize hP : IntPost w (x * y) = Post
  have HP := hide hP
  clear hP
  obtain ⟨a, ca, rfl, ha, hda⟩ := id hx
  obtain ⟨b, cb, rfl, hb, hdb⟩ := id hy
  have HX0 := hx
  have HY0 := hy
  clear hx hy
  have hX0 : Blk (((w.alloc (.cells #[.bool (decide (x < 0)), .slice a (dg BB x.natAbs).length ca] 24)).alloc (.cells #[.bool (decide (y < 0)), .slice b (dg BB y.natAbs).length cb] 24)).alloc (.cells #[.bool false, .slice none 0 0] 24)) w.heap.size 24 #[.bool (decide (x < 0)), .slice a (dg BB x.natAbs).length ca] := ((Blk.new w _ _).alloc _).alloc _
  have hY0 : Blk (((w.alloc (.cells #[.bool (decide (x < 0)), .slice a (dg BB x.natAbs).length ca] 24)).alloc (.cells #[.bool (decide (y < 0)), .slice b (dg BB y.natAbs).length cb] 24)).alloc (.cells #[.bool false, .slice none 0 0] 24)) (w.heap.size + 1) 24 #[.bool (decide (y < 0)), .slice b (dg BB y.natAbs).length cb] := by
    have h := Blk.new (w.alloc (.cells #[.bool (decide (x < 0)), .slice a (dg BB x.natAbs).length ca] 24)) 24 #[.bool (decide (y < 0)), .slice b (dg BB y.natAbs).length cb]
    rw [World.size_alloc] at h
    exact h.alloc _
  have hZ0 : Blk (((w.alloc (.cells #[.bool (decide (x < 0)), .slice a (dg BB x.natAbs).length ca] 24)).alloc (.cells #[.bool (decide (y < 0)), .slice b (dg BB y.natAbs).length cb] 24)).alloc (.cells #[.bool false, .slice none 0 0] 24)) (w.heap.size + 1 + 1) 24 #[.bool false, .slice none 0 0] := by
    have h := Blk.new ((w.alloc (.cells #[.bool (decide (x < 0)), .slice a (dg BB x.natAbs).length ca] 24)).alloc (.cells #[.bool (decide (y < 0)), .slice b (dg BB y.natAbs).length cb] 24)) 24 #[.bool false, .slice none 0 0]
    simp only [World.size_alloc] at h
    exact h
  have hR0 : Rs w [w.heap.size + 1 + 1] (((w.alloc (.cells #[.bool (decide (x < 0)), .slice a (dg BB x.natAbs).length ca] 24)).alloc (.cells #[.bool (decide (y < 0)), .slice b (dg BB y.natAbs).length cb] 24)).alloc (.cells #[.bool false, .slice none 0 0] 24)) := by
    refine ⟨(((Below.refl w.heap.size w).alloc (Nat.le_refl _) _).alloc (by simp) _).alloc (by simp; omega) _, ?_⟩
    intro g hg
    simp at hg
    subst hg
    · exact ⟨_, _, _, _, hZ0⟩
  go_enter Tryd.func27, Tryd.ntmps27
  go_upto_region 1 with (fail)
  generalize ((w.alloc (.cells #[.bool (decide (x < 0)), .slice a (dg BB x.natAbs).length ca] 24)).alloc (.cells #[.bool (decide (y < 0)), .slice b (dg BB y.natAbs).length cb] 24)).alloc (.cells #[.bool false, .slice none 0 0] 24) = W at hX0 hY0 hR0 hZ0 ⊢
  clear hZ0
  obtain ⟨c0, c1, cf⟩ := hX0.c2
  obtain ⟨d0, d1, df⟩ := hY0.c2
  have hR1 := hR0.drew
  have hwA : w.heap.size ≤ w.heap.size := Nat.le_refl _
  have hneA : w.heap.size ≠ w.heap.size + 1 := by omega
  have hwB : w.heap.size ≤ w.heap.size + 1 := by omega
  have hneB : w.heap.size + 1 ≠ w.heap.size := by omega
  have hgA : w.heap.size ∉ [w.heap.size + 1 + 1] := by simp only [List.mem_cons, List.mem_nil_iff, or_false]; omega
  have hgB : w.heap.size + 1 ∉ [w.heap.size + 1 + 1] := by simp only [List.mem_cons, List.mem_nil_iff, or_false]; omega
  have f20 := cf 0
  have f21 := cf 1
  have f30 := df 0
  have f31 := df 1
  have cxn := dg_canon BB2 x.natAbs
  have cyn := dg_canon BB2 y.natAbs
  have dxn : Digs BB (dg BB x.natAbs) := cxn.1
  have dyn : Digs BB (dg BB y.natAbs) := cyn.1
  have hsx : (dg BB x.natAbs).length ≤ 1099511627776 := hn
  have hsy : (dg BB y.natAbs).length ≤ 1099511627776 := hm
  have hvx := dg_val BB2 x.natAbs
  have hvy := dg_val BB2 y.natAbs
  have HS : Hid (signZ (decide (x < 0) != decide (y < 0)) (val BB (dg BB x.natAbs) * val BB (dg BB y.natAbs)) = x * y) := hide (by rw [hvx, hvy]; exact sign_mul x y)
  clear hvx hvy
  generalize decide (x < 0) = nx at *
  generalize decide (y < 0) = ny at *
  generalize dg BB x.natAbs = dx at *
  generalize dg BB y.natAbs = dy at *
  go_region_held3 (fun w' => w'.cell? ⟨w.heap.size, 0, none⟩ = some (.bool nx) ∧ w'.cell? ⟨w.heap.size, 1, none⟩ = some (.slice a dx.length ca) ∧ w'.cell? ⟨w.heap.size + 1, 0, none⟩ = some (.bool ny) ∧ w'.cell? ⟨w.heap.size + 1, 1, none⟩ = some (.slice b dy.length cb) ∧ w'.frozen? ⟨w.heap.size, 0, none⟩ = false ∧ w'.frozen? ⟨w.heap.size, 1, none⟩ = false ∧ w'.frozen? ⟨w.heap.size + 1, 0, none⟩ = false ∧ w'.frozen? ⟨w.heap.size + 1, 1, none⟩ = false ∧ Rs w [w.heap.size + 1 + 1] w')
    (first | with_reducible exact keep2 (by assumption) hb1 | with_reducible exact keepA2 hwA hneA hgA (by assumption) | with_reducible exact keepB2 hwB hneB hgB (by assumption) | go_keep)
    (first
      | (go_at_call_of 63 (Value.agg #[.bool nx, .slice a dx.length ca]); (with_reducible refine (right_at HX0 hn (by go_split_ands; exact Rs.bel (by assumption))).mono ?_); rintro e w1 ⟨rfl, hb1⟩)
      | (go_at_call_of 63 (Value.agg #[.bool ny, .slice b dy.length cb]); (with_reducible refine (right_at HY0 hm (by go_split_ands; exact Rs.bel (by assumption))).mono ?_); rintro e w1 ⟨rfl, hb1⟩))
  rename_i hS
  generalize ((((w1.setCell _ _).setCell _ _).setCell _ _).setCell _ _) = W1 at hS ⊢
  clear c0 c1 cf d0 d1 df f20 f21 f30 f31 hb1 hX0 hY0 hR0 hR1
  obtain ⟨c0, c1, d0, d1, f20, f21, f30, f31, hR⟩ := hS
  have hda1 := hda.below hR.1 (Nat.le_refl _)
  have hdb1 := hdb.below hR.1 (Nat.le_refl _)
  go_wp2_with (at_make; refine wpList_make_zero rfl _ _ rfl _ _ (dx.length + dy.length) rfl rfl (by omega) (by omega) (by omega) ?_)
  intro w2 hrow hb2
  have hS0 : W1.cell? ⟨w.heap.size, 0, none⟩ = some (.bool nx) ∧ W1.cell? ⟨w.heap.size, 1, none⟩ = some (.slice a dx.length ca) ∧ W1.cell? ⟨w.heap.size + 1, 0, none⟩ = some (.bool ny) ∧ W1.cell? ⟨w.heap.size + 1, 1, none⟩ = some (.slice b dy.length cb) ∧ W1.frozen? ⟨w.heap.size, 0, none⟩ = false ∧ W1.frozen? ⟨w.heap.size, 1, none⟩ = false ∧ W1.frozen? ⟨w.heap.size + 1, 0, none⟩ = false ∧ W1.frozen? ⟨w.heap.size + 1, 1, none⟩ = false ∧ Rs w [w.heap.size + 1 + 1] W1 := ⟨c0, c1, d0, d1, f20, f21, f30, f31, hR⟩
  have hS2 := keep2 hS0 hb2
  have hGlt : w.heap.size + 1 + 1 < W1.heap.size := by
    obtain ⟨_, _, _, _, hk⟩ := hR.2 _ (List.mem_singleton.2 rfl)
    exact hk.lt
  have hG0 : w.heap.size ≤ W1.heap.size := by omega
  have hG2 : W1.heap.size ≠ w.heap.size := by omega
  have hG3 : W1.heap.size ≠ w.heap.size + 1 := by omega
  have hGs : W1.heap.size ∉ [w.heap.size + 1 + 1] := by simp only [List.mem_cons, List.mem_nil_iff, or_false]; omega
  have hM0 := MRow.start dx dy
  clear hS0 c0 c1 d0 d1 f20 f21 f30 f31 hR hda1 hdb1 hb2
  generalize W1.heap.size = G at *
  obtain ⟨c0, c1, d0, d1, f20, f21, f30, f31, hR⟩ := id hS2
  go_wp2_with fail
  go_loopg [26] dx.length (fun r v wr => ∃ (i : Nat) (out : List Nat), i + r = dx.length ∧ v = .int .i64 (i : Int) ∧ MRow dx dy i out ∧ DRow .u32 81 wr G out ∧ Box w [w.heap.size + 1 + 1] (.bool nx) (.slice a dx.length ca) (.bool ny) (.slice b dy.length cb) wr)
  case atStart => exact ⟨0, _, by omega, rfl, hM0, hrow, hS2⟩
  case round =>
    obtain ⟨i, out, hir, rfl, hM, hD, hBx⟩ := hrel
    have HI := hide hir
    clear hir hM0 hrow hS2 c0 c1 d0 d1 f20 f21 f30 f31 hR
    obtain ⟨c0, c1, d0, d1, f20, f21, f30, f31, hR⟩ := id hBx
    have hol := hM.len
    rcases Nat.lt_or_ge i dx.length with hi | hi
    · obtain ⟨b1, o1, rfl, hc1, hl1⟩ := hda.at hi
      replace hc1 := (hR.1.cell (p := ⟨b1, o1 + i, none⟩) hl1).trans hc1
      have ha9 := dxn.at hi
      have hI0 : IRow dy i dx[i] out 0 out 0 := IRow.start hM.digs
      have HMN := hide (fun (o' : List Nat) (c : Nat) => MRow.next (out := o') (c := c) hM hi)
      generalize dx[i] = A at hc1 ha9 hI0 HMN
      have hA9 : A < 1000000000 := by rw [BB_eq] at ha9; exact ha9
      clear ha9
      obtain ⟨wo, hwo⟩ : ∃ wo : World, wo = wr := ⟨_, rfl⟩
      subst hwo
      obtain ⟨go, hgo⟩ : ∃ go : Nat, go = gk := ⟨_, rfl⟩
      subst hgo
      go_wp2_with fail
      go_loopg [8, 34] dy.length (fun r c v wr => ∃ (j : Nat) (o' : List Nat) (cc : Nat), j + r = dy.length ∧ v = .int .i64 (j : Int) ∧ c = .int .u64 (cc : Int) ∧ IRow dy i A out j o' cc ∧ DRow .u32 81 wr G o' ∧ Box w [w.heap.size + 1 + 1] (.bool nx) (.slice (some ⟨b1, o1, none⟩) dx.length ca) (.bool ny) (.slice b dy.length cb) wr)
      case atStart => exact ⟨0, out, 0, by omega, rfl, rfl, hI0, hD, hBx⟩
      case round =>
        obtain ⟨j, o', cc, hjr, rfl, rfl, hI, hD', hBx'⟩ := hrel
        have HJ := hide hjr
        clear hjr hI0 hD hBx c0 c1 d0 d1 f20 f21 f30 f31 hR hc1
        obtain ⟨c0, c1, d0, d1, f20, f21, f30, f31, hR⟩ := id hBx'
        have hol' := hI.len
        rcases Nat.lt_or_ge j dy.length with hj | hj
        · obtain ⟨b2, o2, rfl, hc2, hl2⟩ := hdb.at hj
          replace hc2 := (hR.1.cell (p := ⟨b2, o2 + j, none⟩) hl2).trans hc2
          have hb9 := dyn.at hj
          have hij : i + j < o'.length := by omega
          have hij2 : i + j < dx.length + dy.length := by omega
          have hco := hD'.cell hij
          have hfo := hD'.frozen (i + j)
          have ho9 := hI.digs.at hij
          have hcc9 := hI.car
          have HN := hide (fun (q r : Nat) => IRow.next (q := q) (r := r) hI hj hij)
          have HDS := hide (fun (r : Nat) => hD'.set (i + j) r)
          have HBS := hide (fun (u : Value) => (show Box w [w.heap.size + 1 + 1] (.bool nx) (.slice (some ⟨b1, o1, none⟩) dx.length ca) (.bool ny) (.slice (some ⟨b2, o2, none⟩) dy.length cb) (wr.setCell ⟨G, i + j, none⟩ u) from keepFar hG0 hG2 hG3 hGs u hBx'))
          generalize dy[j] = B at hc2 hb9 HN
          generalize o'[i + j] = O at hco ho9 HN
          rw [BB_eq] at hb9 ho9 hcc9
          clear hI hD' hBx'
          have hab2 : A * B ≤ 999999999 * 999999999 := Nat.mul_le_mul (by omega) (by omega)
          obtain ⟨AB, hAB⟩ : ∃ AB : Nat, A * B = AB := ⟨_, rfl⟩
          rw [hAB] at hab2 HN
          have hab : (A : Int) * (B : Int) = (AB : Int) := by rw [← hAB]; simp
          clear hAB
          obtain ⟨r, hr⟩ : ∃ r : Nat, r = (cc + (O + AB)) % 1000000000 := ⟨_, rfl⟩
          obtain ⟨q, hq⟩ : ∃ q : Nat, q = (cc + (O + AB)) / 1000000000 := ⟨_, rfl⟩
          have hr1 : ((cc : Int) + ((O : Int) + (AB : Int))) % 1000000000 = (r : Int) := by omega
          have hq1 : ((cc : Int) + ((O : Int) + (AB : Int))) / 1000000000 = (q : Int) := by omega
          have HF : Hid (cc + (O + AB) = BB * q + r ∧ r < BB ∧ q < BB) := hide (by rw [BB_eq]; omega)
          have hr9 : r < 1000000000 := by omega
          clear hr hq
          go_wp2_with fail
          have hjr := HJ.out
          have hN := HN.out q r HF.out.1 HF.out.2.1 HF.out.2.2
          go_roundg (gk - 1)
          case measure => omega
          case rel => exact ⟨j + 1, _, q, by omega, by go_num, by rw [hq1], hN, HDS.out r, HBS.out _⟩
        · obtain rfl : j = dy.length := by have := HJ.out; omega
          have hij : i + dy.length < o'.length := by omega
          have hij2 : i + dy.length < dx.length + dy.length := by omega
          have hco := hD'.cell hij
          have hfo := hD'.frozen (i + dy.length)
          have hcc9 := hI.car
          rw [BB_eq] at hcc9
          have HMN2 := hide (HMN.out o' cc hI)
          have HDS := hide (hD'.set (i + dy.length) cc)
          have HBS := hide (fun (u : Value) => (show Box w [w.heap.size + 1 + 1] (.bool nx) (.slice (some ⟨b1, o1, none⟩) dx.length ca) (.bool ny) (.slice b dy.length cb) (wr.setCell ⟨G, i + dy.length, none⟩ u) from keepFar hG0 hG2 hG3 hGs u hBx'))
          generalize o'[i + dy.length] = O at hco
          clear hI hD' hBx' HMN
          go_wp2_with fail
          have hir := HI.out
          go_roundg (go - 1)
          case measure => omega
          case rel => exact ⟨i + 1, _, by omega, by go_num, HMN2.out, HDS.out, HBS.out _⟩
    · have hgd := hD.dg
      have HV : Hid (signZ (nx != ny) (val BB out) = x * y) := hide (by rw [hM.done hi]; exact HS.out)
      have hod := hM.digs
      have hsg := signed_any (nx != ny) (some ⟨G, 0, none⟩) (dx.length + dy.length) out wr hgd hod (by omega) (by omega)
      rw [hol] at hsg
      go_wp2_with fail
      refine hsg.mono ?_
      rintro e w3 ⟨r, rfl, hrI, hb3⟩
      obtain ⟨rn, rb, rl, rk, rfl⟩ := hrI.parts
      obtain ⟨_, _, _, _, k0, k1, kf0, kf1, hX4⟩ := hR.at (List.mem_singleton.2 rfl) hb3
      obtain ⟨e0, e1, -⟩ := (hX4.two (.bool rn) (.slice rb rl rk)).c2
      have hI := hrI.store hX4 (.bool rn) (.slice rb rl rk)
      rw [HV.out] at hI
      have hRf := (hR.below hb3).put (g := w.heap.size + 1 + 1) (by omega) rn rb rl rk
      clear hsg
      go_wp2_with fail
      refine bodyPost_ret (v := .agg #[.bool rn, .slice rb rl rk]) (by simp [results, Tryd.results27, go_sem, e0, e1]) rfl ?_
      rw [← HP.out]
      exact ⟨_, rfl, hI, hRf.1⟩
end Go.Proofs.YthpibilefdmemaaDoor
