/- collatorref01.Mul: by its contract. -/
import Derived.Test.YthpibilefdmemaaDoorRArith
import Derived.Test.YthpibilefdmemaaDoorMul
namespace Go.Proofs.YthpibilefdmemaaDoor
open Go.RowKit

/-- So many rows of a decimal product are in. -/
structure TRow (x y : List Nat) (i : Nat) (out : List Nat) : Prop where
  len : out.length = x.length + y.length + 1
  digs : Digs 10 out
  val_ : val 10 out = val 10 (x.take i) * val 10 y
  zero : ∀ k, i + y.length ≤ k → k < out.length → out[k]? = some 0
/-- Within a row: so many places are in; what is carried. -/
structure SRow (y : List Nat) (i : Nat) (a : Nat) (o0 : List Nat) (j : Nat) (out : List Nat) (c : Nat) : Prop where
  len : out.length = o0.length
  digs : Digs 10 out
  car : c < 10
  val_ : val 10 out + 10 ^ (i + j) * c = val 10 o0 + 10 ^ i * (a * val 10 (y.take j))
  rest : ∀ k, i + j ≤ k → out[k]? = o0[k]?
theorem TRow.start (x y : List Nat) : TRow x y 0 (List.replicate (x.length + y.length + 1) 0) := by
  refine ⟨by simp, ?_, by simp [val, val_zeros], fun k _ hk => by simp at hk; simp [hk]⟩
  intro d hd
  have := List.eq_of_mem_replicate hd
  omega
theorem SRow.start {y : List Nat} {i a : Nat} {o0 : List Nat} (h : Digs 10 o0) : SRow y i a o0 0 o0 0 :=
  ⟨rfl, h, by omega, by simp [val], fun _ _ => rfl⟩
theorem SRow.next {y : List Nat} {i a j c q r e : Nat} {o0 out : List Nat} (h : SRow y i a o0 j out c) (he : val 10 (y.take (j + 1)) = val 10 (y.take j) + 10 ^ j * e) (ho : i + j < out.length) (hq : c + out[i + j] + a * e = 10 * q + r) (hr : r < 10) (hq1 : q < 10) :
    SRow y i a o0 (j + 1) (out.set (i + j) r) q := by
  refine ⟨by simp [h.len], h.digs.set hr, hq1, ?_, ?_⟩
  · have hs := val_set (b := 10) out (i + j) r ho
    have hv := h.val_
    rw [he]
    have e1 : 10 ^ i * (a * (val 10 (y.take j) + 10 ^ j * e)) = 10 ^ i * (a * val 10 (y.take j)) + 10 ^ (i + j) * (a * e) := by
      rw [Nat.mul_add, Nat.mul_add, Nat.pow_add, Nat.mul_assoc]
      congr 1
      rw [← Nat.mul_assoc a, Nat.mul_comm a, Nat.mul_assoc]
    have e2 : 10 ^ (i + j) * (c + out[i + j] + a * e) = 10 ^ (i + (j + 1)) * q + 10 ^ (i + j) * r := by
      rw [hq, Nat.mul_add, ← Nat.add_assoc i j 1, Nat.pow_succ, Nat.mul_assoc]
    rw [Nat.mul_add, Nat.mul_add] at e2
    rw [e1]
    omega
  · intro k hk
    rw [List.getElem?_set_ne (by omega)]
    exact h.rest k (by omega)
theorem TRow.next {x y : List Nat} {i j : Nat} {o0 out : List Nat} (h : TRow x y i o0) (hi : i < x.length) (hI : SRow y i x[i] o0 j out 0) (hj : y.length ≤ j) (hj2 : j ≤ y.length + 1) : TRow x y (i + 1) out := by
  refine ⟨by rw [hI.len, h.len], hI.digs, ?_, ?_⟩
  · have hv := hI.val_
    rw [Nat.mul_zero, Nat.add_zero, List.take_of_length_le hj] at hv
    rw [tval_take_succ hi, Nat.add_mul, Nat.mul_assoc, ← h.val_]
    exact hv
  · intro k hk hkl
    rw [hI.rest k (by omega)]
    exact h.zero k (by omega) (by rw [← hI.len]; exact hkl)

theorem wpList_make_zeroI {w : World} {ops : Array Oper} {rest : List Oper} {o : Oper} {a : Act} {Q : Exit → Act → World → Prop} (hgd : o.guard = none) (l c : Operand) (ho : o.op = Op.makeSlice 28 l c)
    (L C : Int) (n : Nat) (hl : a.eval l = .int .i64 L) (hc : a.eval c = .int .i64 C) (hL : L = (n : Int)) (hC : C = (n : Int)) (hn : n ≤ 4398046511104)
    (hK : ∀ w', DRow .i64 3 w' w.heap.size (List.replicate n 0) → Below w.heap.size w w' → wpList Tryd.prog ops Q rest (a.put o.dst (.slice (some ⟨w.heap.size, 0, none⟩) n n)) w') : wpList Tryd.prog ops Q (o :: rest) a w := by
  obtain ⟨i0, hi0, hz0, hz1, hz2⟩ := info_parts info64
  refine wpList_make_full w hgd l c 28 ho w.heap.size 3 i0 (.int .i64 0) 1 Tryd.underlying28 hi0 hz0 hz1 .i64 .i64 L C n hl hc hL hC (by rw [hz2]; omega) (by unfold maxLen; omega) (Nat.le_refl _) (fun w' h1 h2 => hK w' ?_ (below_of_grown h2 (fun g h => by cases h) (Nat.le_refl _)))
  rw [made_zero] at h1
  exact own_row h1

/-- Two numbers in boxes, the result's block, a row of digits. -/
structure MuSt (w : World) (nx : Bool) (vx : Value) (ny : Bool) (vy : Value) (G : Nat) (out : List Nat) (c : World) : Prop where
  bx : Blk c w.heap.size 30 #[.bool nx, vx]
  by_ : Blk c (w.heap.size + 1) 30 #[.bool ny, vy]
  bz : Blk c (w.heap.size + 1 + 1) 30 #[.bool false, .slice none 0 0]
  row : DRow .i64 3 c G out
  bel : Below w.heap.size w c
theorem MuSt.set {w c : World} {nx ny : Bool} {vx vy : Value} {G : Nat} {out : List Nat} (h : MuSt w nx vx ny vy G out c) (hG : w.heap.size + 3 ≤ G) (i d : Nat) : MuSt w nx vx ny vy G (out.set i d) (c.setCell ⟨G, i, none⟩ (.int .i64 (d : Int))) :=
  ⟨h.bx.far (by simp; omega) _, h.by_.far (by simp; omega) _, h.bz.far (by simp; omega) _, h.row.set i d, h.bel.setCell (by simp; omega) _⟩
theorem MuSt.drewN {w c : World} {nx ny : Bool} {vx vy : Value} {G : Nat} {out : List Nat} (h : MuSt w nx vx ny vy G out c) (n : Nat) : MuSt w nx vx ny vy G out (c.drewN n) := ⟨h.bx, h.by_, h.bz, h.row, below_drewN h.bel n⟩

set_option maxRecDepth 100000 in
set_option maxHeartbeats 3200000 in
theorem RMul_any {x y : Int} {u v : Value} (w : World) (hx : NumV w u x) (hy : NumV w v y) (hn : Dm x) (hm : Dm y) :
    Calls Tryd.prog 28 #[u, v] w (NumPost w (x * y)) := by
  generalize hP : NumPost w (x * y) = Post
  have HP := hide hP
  clear hP
  obtain ⟨a, ca, rfl, ha, hda⟩ := hx
  obtain ⟨b, cb, rfl, hb, hdb⟩ := hy
  have dX : Digs 10 (dg 10 x.natAbs) := (dg_canon T2 x.natAbs).1
  have dY : Digs 10 (dg 10 y.natAbs) := (dg_canon T2 y.natAbs).1
  have HS : Hid (signZ (decide (x < 0) != decide (y < 0)) (val 10 (dg 10 x.natAbs) * val 10 (dg 10 y.natAbs)) = x * y) := hide (by rw [dg_val T2, dg_val T2]; exact sign_mul x y)
  unfold Dm dlen at hn hm
  generalize dg 10 x.natAbs = X at *
  generalize dg 10 y.natAbs = Y at *
  generalize decide (x < 0) = nx at *
  generalize decide (y < 0) = ny at *
  obtain ⟨W, hW⟩ : ∃ W, ((w.alloc (.cells #[.bool nx, .slice a X.length ca] 30)).alloc (.cells #[.bool ny, .slice b Y.length cb] 30)).alloc (.cells #[.bool false, .slice none 0 0] 30) = W := ⟨_, rfl⟩
  have hZ : Blk W w.heap.size 30 #[.bool nx, .slice a X.length ca] := by rw [← hW]; exact ((Blk.new w _ _).alloc _).alloc _
  have hZ2 : Blk W (w.heap.size + 1) 30 #[.bool ny, .slice b Y.length cb] := by rw [← hW]; exact (Blk.new_at _ _ _ (by simp)).alloc _
  have hZ3 : Blk W (w.heap.size + 1 + 1) 30 #[.bool false, .slice none 0 0] := by rw [← hW]; exact Blk.new_at _ _ _ (by simp)
  have hB : Below w.heap.size w W := by rw [← hW]; exact (((Below.refl _ _).alloc (Nat.le_refl _) _).alloc (by simp) _).alloc (by simp; omega) _
  have hsz : W.heap.size = w.heap.size + 3 := by rw [← hW]; simp
  have HSZ := hide hsz
  obtain ⟨c0, c1, -⟩ := hZ.c2
  obtain ⟨d0, d1, -⟩ := hZ2.c2
  have HW := hide hW
  clear hW hsz
  go_enter Tryd.func28, Tryd.ntmps28
  go_upto_region 1 with (fail)
  rw [HW.out]
  clear HW
  go_wp2_with (at_make; refine wpList_make_zeroI rfl _ _ rfl _ _ (X.length + Y.length + 1) rfl rfl (by omega) (by omega) (by omega) ?_)
  intro w2 hrow hb2
  have s0 : MuSt w nx (.slice a X.length ca) ny (.slice b Y.length cb) W.heap.size (List.replicate (X.length + Y.length + 1) 0) w2 := ⟨hZ.below hb2 hZ.lt, hZ2.below hb2 hZ2.lt, hZ3.below hb2 hZ3.lt, hrow, hB.trans (hb2.mono hB.size)⟩
  have hG : w.heap.size + 3 ≤ W.heap.size := by rw [HSZ.out]; exact Nat.le_refl _
  have hM0 := TRow.start X Y
  clear hZ hZ2 hZ3 hB hrow hb2 c0 c1 d0 d1 HSZ
  generalize W.heap.size = G at *
  go_wp2_with fail
  go_loopg [6, 7, 8] X.length (fun r v _c _k wr => ∃ (i : Nat) (out : List Nat), i + r = X.length ∧ v = .int .i64 (i : Int) ∧ TRow X Y i out ∧ MuSt w nx (.slice a X.length ca) ny (.slice b Y.length cb) G out wr)
  case atStart => exact ⟨0, _, by omega, rfl, hM0, s0⟩
  case round =>
    obtain ⟨i, out, hir, rfl, hM, s⟩ := hrel
    have HI := hide hir
    clear hir hM0 s0
    obtain ⟨c0, c1, -⟩ := s.bx.c2
    obtain ⟨d0, d1, -⟩ := s.by_.c2
    have hol := hM.len
    rcases Nat.lt_or_ge i X.length with hi | hi
    · obtain ⟨b1, o1, rfl, hc1, hl1⟩ := hda.at hi
      have hA9 := dX.at hi
      have hI0 : SRow Y i X[i] out 0 out 0 := SRow.start hM.digs
      have HMN := hide (fun (o' : List Nat) (j : Nat) => TRow.next (out := o') (j := j) hM hi)
      have HZ := hide hM.zero
      generalize X[i] = A at hc1 hA9 hI0 HMN
      clear hM
      obtain ⟨wo, hwo⟩ : ∃ wo : World, wo = wr := ⟨_, rfl⟩
      subst hwo
      obtain ⟨go, hgo⟩ : ∃ go : Nat, go = gk := ⟨_, rfl⟩
      subst hgo
      go_wp2_with fail
      go_loopg [7, 8] (Y.length + 1) (fun r c v wr => ∃ (j : Nat) (o' : List Nat) (cc : Nat), j + r = Y.length + 1 ∧ (r = 0 → cc = 0) ∧ v = .int .i64 (j : Int) ∧ c = .int .i64 (cc : Int) ∧ SRow Y i A out j o' cc ∧ MuSt w nx (.slice (some ⟨b1, o1, none⟩) X.length ca) ny (.slice b Y.length cb) G o' wr)
      case atStart => exact ⟨0, out, 0, by omega, fun _ => rfl, rfl, rfl, hI0, s⟩
      case round =>
        obtain ⟨j, o', cc, hjr, hr0, rfl, rfl, hI, t⟩ := hrel
        have HJ := hide hjr
        have HR0 := hide hr0
        have hj1 : j ≤ Y.length + 1 := by omega
        clear hjr hr0 hI0 s c0 c1 d0 d1
        obtain ⟨c0, c1, -⟩ := t.bx.c2
        obtain ⟨d0, d1, -⟩ := t.by_.c2
        have hol' := hI.len
        have hcc9 := hI.car
        rcases Nat.lt_or_ge j Y.length with hj | hj
        · obtain ⟨b2, o2, rfl, hc2, hl2⟩ := hdb.at hj
          have hc1' := (t.bel.cell (p := ⟨b1, o1 + i, none⟩) hl1).trans hc1
          have hc2' := (t.bel.cell (p := ⟨b2, o2 + j, none⟩) hl2).trans hc2
          have hB9 := dY.at hj
          have hij : i + j < o'.length := by omega
          have hij2 : i + j < X.length + Y.length + 1 := by omega
          have hco := t.row.cell hij
          have hfo := t.row.frozen (i + j)
          have ho9 := hI.digs.at hij
          have tj : decide (j < Y.length) = true := decide_eq_true hj
          have HN := hide (fun (q r : Nat) => SRow.next (q := q) (r := r) hI (tval_take_succ hj) hij)
          generalize Y[j] = B at hc2' hB9 HN
          generalize o'[i + j] = O at hco ho9 HN
          clear hI
          have hab2 : A * B ≤ 9 * 9 := Nat.mul_le_mul (by omega) (by omega)
          obtain ⟨AB, hAB⟩ : ∃ AB : Nat, A * B = AB := ⟨_, rfl⟩
          rw [hAB] at hab2 HN
          have hab : (A : Int) * (B : Int) = (AB : Int) := by rw [← hAB]; simp
          have hw1 : IntKind.i64.wrap ((A : Int) * (B : Int)) = (AB : Int) := by rw [hab]; exact IntWalk.i64_in _ (by omega)
          have hw2 : IntKind.i64.wrap ((cc : Int) + (O : Int) + (AB : Int)) = ((cc + O + AB : Nat) : Int) := by rw [IntWalk.i64_in _ (by omega)]; omega
          clear hAB hab
          obtain ⟨r, hr⟩ : ∃ r : Nat, r = (cc + O + AB) % 10 := ⟨_, rfl⟩
          obtain ⟨q, hq⟩ : ∃ q : Nat, q = (cc + O + AB) / 10 := ⟨_, rfl⟩
          have HQ1 : Hid (((cc + O + AB : Nat) : Int) / 10 = (q : Int)) := hide (by omega)
          have hr1 : ((cc + O + AB : Nat) : Int) % 10 = (r : Int) := by omega
          have HF : Hid (cc + O + AB = 10 * q + r ∧ r < 10 ∧ q < 10) := hide (by omega)
          have hr9 : r < 10 := by omega
          have hS9 : cc + O + AB ≤ 1000 := by omega
          have HT := hide (fun n => (t.drewN n).set hG (i + j) r)
          generalize cc + O + AB = S at *
          clear hr hq
          go_wp2_with fail
          go_quiet (fail)
          go_wp2_with fail
          have hjr := HJ.out
          have hN := HN.out q r HF.out.1 HF.out.2.1 HF.out.2.2
          go_roundg (gk - 1)
          case measure => omega
          case rel => exact ⟨j + 1, _, q, by omega, fun h => by omega, by go_num, by rw [HQ1.out], hN, HT.out _⟩
        · have tj : decide (j < Y.length) = false := decide_eq_false (by omega)
          rcases Nat.eq_zero_or_pos cc with hc0 | hc0
          · subst hc0
            have tc : decide ((0 : Int) < ((0 : Nat) : Int)) = false := rfl
            have hM2 := HMN.out o' j hI hj hj1
            clear hI
            go_wp2_with fail
            have hir := HI.out
            go_roundg (go - 1)
            case measure => omega
            case rel => exact ⟨i + 1, _, by omega, by go_num, hM2, t⟩
          · have tc : decide ((0 : Int) < (cc : Int)) = true := decide_eq_true (by omega)
            have tc2 : decide (0 < cc) = true := decide_eq_true hc0
            obtain rfl : j = Y.length := by
              have h1 := HJ.out
              have h2 := HR0.out
              rcases Nat.eq_zero_or_pos gk with h | h
              · have := h2 h; omega
              · omega
            have hij : i + Y.length < o'.length := by omega
            have hij2 : i + Y.length < X.length + Y.length + 1 := by omega
            have hz : o'[i + Y.length] = 0 := by
              have h1 := hI.rest (i + Y.length) (Nat.le_refl _)
              rw [HZ.out _ (Nat.le_refl _) (by omega), List.getElem?_eq_getElem hij] at h1
              exact Option.some.inj h1
            have hco := t.row.cell hij
            rw [hz] at hco
            have hfo := t.row.frozen (i + Y.length)
            have hN := hI.next (q := 0) (r := cc) (e := 0) (tval_take_ge (Nat.le_refl _)) hij (by rw [hz]; omega) hcc9 (by omega)
            have HT := hide (t.set hG (i + Y.length) cc)
            have hm1 : (cc : Int) % 10 = (cc : Int) := by omega
            have HQ1 : Hid ((cc : Int) / 10 = ((0 : Nat) : Int)) := hide (by omega)
            clear hI hz
            go_wp2_with fail
            have hjr := HJ.out
            go_roundg (gk - 1)
            case measure => omega
            case rel => exact ⟨Y.length + 1, _, 0, by omega, fun _ => rfl, by go_num, by rw [HQ1.out], hN, HT.out⟩
    · have hgd := s.row.dg
      have HV : Hid (signZ (nx != ny) (val 10 out) = x * y) := hide (by rw [hM.val_, List.take_of_length_le hi]; exact HS.out)
      have hod := hM.digs
      have hsg := make1_any (nx != ny) (some ⟨G, 0, none⟩) (X.length + Y.length + 1) out wr hgd hod ⟨by omega, fun h => by cases h⟩ (by omega)
      rw [hol] at hsg
      have hB2 := s.bel
      have hR2 := s.bz
      clear s hM
      go_wp2_with fail
      refine hsg.mono ?_
      clear hsg
      rintro e w3 ⟨r3, rfl, h3, hb3⟩
      rw [HV.out] at h3
      obtain ⟨rn, rr, rl, rk, rfl⟩ := h3.parts
      have hR3 := hR2.below hb3 hR2.lt
      have hB3 : Below w.heap.size w w3 := hB2.trans (hb3.mono hB2.size)
      obtain ⟨k0, k1, kf⟩ := hR3.c2
      have kf0 := kf 0
      have kf1 := kf 1
      obtain ⟨e0, e1, -⟩ := (hR3.two (.bool rn) (.slice rr rl rk)).c2
      have hI := h3.store hR3 (.bool rn) (.slice rr rl rk)
      go_wp2_with fail
      refine bodyPost_ret (v := .agg #[.bool rn, .slice rr rl rk]) (by simp [results, Tryd.results28, go_sem, e0, e1]) rfl ?_
      rw [← HP.out]
      exact ⟨_, rfl, hI, (hB3.setCell (by simp; omega) _).setCell (by simp; omega) _⟩
end Go.Proofs.YthpibilefdmemaaDoor
