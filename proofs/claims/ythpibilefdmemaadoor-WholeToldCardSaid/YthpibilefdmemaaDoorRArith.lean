/- collatorref01's Neg, Int, Cmp, Add: by their contracts. -/
import Derived.Test.YthpibilefdmemaaDoorKeep
import Derived.Test.YthpibilefdmemaaDoorRForm
namespace Go.Proofs.YthpibilefdmemaaDoor
open Go.RowKit

theorem sign_val (x : Int) : signZ (decide (x < 0)) x.natAbs = x := by
  unfold signZ
  by_cases h : x < 0
  · rw [decide_eq_true h, if_pos rfl]; omega
  · rw [decide_eq_false h, if_neg (by decide)]; omega
theorem sign_neg (x : Int) : signZ (!decide (x < 0)) x.natAbs = -x := by
  unfold signZ
  by_cases h : x < 0
  · rw [decide_eq_true h, if_neg (by decide)]; omega
  · rw [decide_eq_false h, if_pos (by decide)]; omega
/-- A number of the document that a slice can hold. -/
def Dm (z : Int) : Prop := dlen z ≤ 100000000000

set_option maxHeartbeats 800000 in
theorem RNeg_any {x : Int} {v : Value} (w : World) (hx : NumV w v x) (hn : Dm x) :
    Calls Tryd.prog 30 #[v] w (NumPost w (-x)) := by
  generalize hP : NumPost w (-x) = Post
  have HP := hide hP
  clear hP
  obtain ⟨a, cap, rfl, hf, hd⟩ := hx
  have hX := (dg_canon T2 x.natAbs).1
  have HV : Hid (signZ (!decide (x < 0)) (val 10 (dg 10 x.natAbs)) = -x) := hide (by rw [dg_val T2]; exact sign_neg x)
  unfold Dm dlen at hn
  generalize dg 10 x.natAbs = X at *
  generalize decide (x < 0) = neg at *
  obtain ⟨W, hW⟩ : ∃ W, (w.alloc (.cells #[.bool neg, .slice a X.length cap] 30)).alloc (.cells #[.bool false, .slice none 0 0] 30) = W := ⟨_, rfl⟩
  have hZ : Blk W w.heap.size 30 #[.bool neg, .slice a X.length cap] := by rw [← hW]; exact (Blk.new w _ _).alloc _
  have hR : Blk W (w.heap.size + 1) 30 #[.bool false, .slice none 0 0] := by rw [← hW]; exact Blk.new_at _ _ _ (by simp)
  have hB : Below w.heap.size w W := by rw [← hW]; exact ((Below.refl _ _).alloc (Nat.le_refl _) _).alloc (by simp) _
  have hd0 := hd.below hB (Nat.le_refl _)
  obtain ⟨z0, z1, -⟩ := hZ.c2
  go_enter Tryd.func30, Tryd.ntmps30
  go_wp2_with fail
  clear hW
  refine (make1_any (!neg) a cap X W hd0 hX hf (by omega)).mono ?_
  rintro e w3 ⟨r3, rfl, h3, hb3⟩
  rw [HV.out] at h3
  obtain ⟨rn, rr, rl, rk, rfl⟩ := h3.parts
  have hR3 := hR.below hb3 hR.lt
  have hB3 : Below w.heap.size w w3 := hB.trans (hb3.mono hB.size)
  obtain ⟨k0, k1, kf⟩ := hR3.c2
  have kf0 := kf 0
  have kf1 := kf 1
  obtain ⟨e0, e1, -⟩ := (hR3.two (.bool rn) (.slice rr rl rk)).c2
  have hI := h3.store hR3 (.bool rn) (.slice rr rl rk)
  go_wp2_with fail
  refine bodyPost_ret (v := .agg #[.bool rn, .slice rr rl rk]) (by simp [results, Tryd.results30, go_sem, e0, e1]) rfl ?_
  rw [← HP.out]
  exact ⟨_, rfl, hI, (hB3.setCell (by simp) _).setCell (by simp) _⟩

set_option maxHeartbeats 800000 in
theorem RInt_any (m : Int) (w : World) (h1 : -9223372036854775807 ≤ m) (h2 : m ≤ 9223372036854775807) :
    Calls Tryd.prog 19 #[.int .i64 m] w (NumPost w m) := by
  generalize hP : NumPost w m = Post
  have HP := hide hP
  clear hP
  have hR := Blk.new w 30 #[.bool false, .slice none 0 0]
  have hB : Below w.heap.size w (w.alloc (.cells #[.bool false, .slice none 0 0] 30)) := (Below.refl _ _).alloc (Nat.le_refl _) _
  obtain ⟨W, hW⟩ : ∃ W, w.alloc (.cells #[.bool false, .slice none 0 0] 30) = W := ⟨_, rfl⟩
  have hsz : W.heap.size = w.heap.size + 1 := by rw [← hW]; simp
  rw [hW] at hR hB
  have HSZ := hide hsz
  have HW := hide hW
  clear hsz hW
  go_enter Tryd.func19, Tryd.ntmps19
  go_upto_if 7 with (fail)
  rw [HW.out]
  clear HW
  generalize hneg : decide (m < 0) = neg
  have HNEG := hide hneg
  go_cut [0] from 8 to 9 (fun v0 wc => W = wc ∧ v0 = .int .i64 (m.natAbs : Int))
  case first =>
    cases neg with
    | true =>
      have hm : m < 0 := by simpa using hneg
      clear hneg
      go_wp2_with fail
      go_meet
      exact ⟨rfl, by congr 1; omega⟩
    | false =>
      have hm : ¬ m < 0 := by simpa using hneg
      clear hneg
      go_wp2_with fail
      go_meet
      exact ⟨rfl, by congr 1; omega⟩
  case rest =>
    obtain ⟨rfl, rfl⟩ := hcut
    clear hneg
    have HV : Hid (signZ neg m.natAbs = m) := hide (by rw [← HNEG.out]; exact sign_val m)
    have hN : m.natAbs < 10 ^ 19 := by
      have : (10 : Nat) ^ 19 = 10000000000000000000 := rfl
      omega
    have hN2 : m.natAbs ≤ 9223372036854775807 := by omega
    clear h1 h2 HNEG
    generalize m.natAbs = N at *
    obtain ⟨W2, hW2⟩ : ∃ W2, W.alloc (.cells #[] 3) = W2 := ⟨_, rfl⟩
    have hb2 : Below W.heap.size W W2 := by rw [← hW2]; exact (Below.refl _ _).alloc (Nat.le_refl _) _
    have ho2 : OwnE W2 W.heap.size (.slice (some ⟨W.heap.size, 0, none⟩) 0 0) [] := by rw [← hW2]; exact own_empty W
    have hs2 : W.heap.size ≤ W2.heap.size := hb2.size
    have HW2 := hide hW2
    clear hW2
    go_upto_region 5 with (fail)
    rw [HW2.out]
    clear HW2
    go_loopg [0, 4] (N + 1) (fun k n v wr => ∃ (nn : Nat) (ds : List Nat), k = nn + 1 ∧ n = .int .i64 (nn : Int) ∧ nn < 10 ^ (19 - ds.length) ∧ ds.length ≤ 19 ∧ OwnE wr W.heap.size v ds ∧ Digs 10 ds ∧ Hid (val 10 ds + 10 ^ ds.length * nn = N) ∧ Below W.heap.size W wr ∧ nn ≤ 9223372036854775807)
    case atStart => exact ⟨N, [], rfl, rfl, hN, by simp, ho2, Digs.nil _, hide (by simp [val]), hb2, hN2⟩
    case round =>
      obtain ⟨n, ds, hk, rfl, hnl, hdl, ho, hD, HS, hbw, hn2⟩ := hrel
      have HK := hide hk
      clear hk ho2
      rcases Nat.eq_zero_or_pos n with h0 | h0
      · subst h0
        obtain ⟨ra, rc, rfl⟩ := own_slice ho
        obtain ⟨hD2, hc2⟩ := own_dg ho
        have HV2 : Hid (signZ neg (val 10 ds) = m) := hide (by have h := HS.out; rw [Nat.mul_zero, Nat.add_zero] at h; rw [h]; exact HV.out)
        have hR2 := hR.below hbw hR.lt
        have hB2 : Below w.heap.size w wr := hB.trans (hbw.mono hB.size)
        clear hnl
        go_wp2_with fail
        refine (make1_any neg ra rc ds wr hD2 hD hc2 (by omega)).mono ?_
        rintro e w3 ⟨r3, rfl, h3, hb3⟩
        rw [HV2.out] at h3
        obtain ⟨rn, rr, rl, rk, rfl⟩ := h3.parts
        have hR3 := hR2.below hb3 hR2.lt
        have hB3 : Below w.heap.size w w3 := hB2.trans (hb3.mono hB2.size)
        obtain ⟨k0, k1, kf⟩ := hR3.c2
        have kf0 := kf 0
        have kf1 := kf 1
        obtain ⟨e0, e1, -⟩ := (hR3.two (.bool rn) (.slice rr rl rk)).c2
        have hI := h3.store hR3 (.bool rn) (.slice rr rl rk)
        go_wp2_with fail
        refine bodyPost_ret (v := .agg #[.bool rn, .slice rr rl rk]) (by simp [results, Tryd.results19, go_sem, e0, e1]) rfl ?_
        rw [← HP.out]
        exact ⟨_, rfl, hI, (hB3.setCell (Nat.le_refl _) _).setCell (Nat.le_refl _) _⟩
      · have h19 : ds.length < 19 := by
          rcases Nat.lt_or_ge ds.length 19 with h | h
          · exact h
          · rw [show 19 - ds.length = 0 by omega, Nat.pow_zero] at hnl; omega
        obtain ⟨r, hr⟩ : ∃ r : Nat, r = n % 10 := ⟨_, rfl⟩
        obtain ⟨q, hq⟩ : ∃ q : Nat, q = n / 10 := ⟨_, rfl⟩
        have hr1 : (n : Int) % 10 = (r : Int) := by omega
        have HQ1 : Hid ((n : Int) / 10 = (q : Int)) := hide (by omega)
        have HF : Hid (n = 10 * q + r ∧ r < 10) := hide (by omega)
        have HQL : Hid (q < 10 ^ (19 - (ds.length + 1))) := hide (by
          rw [show 19 - ds.length = (19 - (ds.length + 1)) + 1 by omega, Nat.pow_succ] at hnl
          omega)
        have e0 : decide ((0 : Int) < (n : Int)) = true := decide_eq_true (by omega)
        clear hr hq hnl
        have ho1 := ho.alloc (.cells #[.int .i64 (r : Int)] 3)
        have hle1 := hbw.size
        go_wp2_with (at_builtin; refine wpList_append_int rfl (.tmp 13) (.tmp 16) rfl W.heap.size _ ds rfl ho1 ⟨_, 0, none⟩ r rfl ?c1 ?c2 ?c3 ?_)
        case c1 => rw [add_plain]; exact (Blk.new _ _ _).cell 0
        case c2 => omega
        case c3 => simp; omega
        intro v' w2 ho3 hb3
        have hb4 : Below W.heap.size W w2 := hbw.trans (((Below.refl _ _).alloc hle1 _).trans hb3)
        clear ho ho1 hbw hb3 hr1
        go_wp2_with fail
        have hk := HK.out
        have hf := HF.out
        go_roundg (q + 1)
        case measure => omega
        case rel =>
          refine ⟨q, ds ++ [r], rfl, by rw [HQ1.out], ?_, by simp; omega, ho3, hD.snoc hf.2, hide ?_, hb4, by omega⟩
          · rw [List.length_append, List.length_singleton]; exact HQL.out
          · rw [← HS.out, val_snoc, hf.1, List.length_append, List.length_singleton, Nat.pow_succ, Nat.mul_add, Nat.mul_assoc]
            omega

set_option maxHeartbeats 800000 in
theorem RCmp_any {x y : Int} {u v : Value} (w : World) (hx : NumV w u x) (hy : NumV w v y) (hn : Dm x) (hm : Dm y) :
    Calls Tryd.prog 34 #[u, v] w fun e w' => e = .returned (.int .i64 (ordZ x y)) ∧ Below w.heap.size w w' := by
  generalize hr : ordZ x y = r
  have HR := hide hr
  clear hr
  obtain ⟨a, ca, rfl, ha, hda⟩ := hx
  obtain ⟨b, cb, rfl, hb, hdb⟩ := hy
  have cx := dg_canon T2 x.natAbs
  have cy := dg_canon T2 y.natAbs
  have HVX := hide (dg_val T2 x.natAbs)
  have HVY := hide (dg_val T2 y.natAbs)
  unfold Dm dlen at hn hm
  generalize dg 10 x.natAbs = X at *
  generalize dg 10 y.natAbs = Y at *
  generalize hnx : decide (x < 0) = nx at *
  generalize hny : decide (y < 0) = ny at *
  have HNX := hide hnx
  have HNY := hide hny
  clear hnx hny
  obtain ⟨W, hW⟩ : ∃ W, (w.alloc (.cells #[.bool nx, .slice a X.length ca] 30)).alloc (.cells #[.bool ny, .slice b Y.length cb] 30) = W := ⟨_, rfl⟩
  have hZ : Blk W w.heap.size 30 #[.bool nx, .slice a X.length ca] := by rw [← hW]; exact (Blk.new w _ _).alloc _
  have hZ2 : Blk W (w.heap.size + 1) 30 #[.bool ny, .slice b Y.length cb] := by rw [← hW]; exact Blk.new_at _ _ _ (by simp)
  have hB : Below w.heap.size w W := by rw [← hW]; exact ((Below.refl _ _).alloc (Nat.le_refl _) _).alloc (by simp) _
  have hda0 := hda.below hB (Nat.le_refl _)
  have hdb0 := hdb.below hB (Nat.le_refl _)
  obtain ⟨z0, z1, -⟩ := hZ.c2
  obtain ⟨y0, y1, -⟩ := hZ2.c2
  have HW := hide hW
  clear hW
  go_enter Tryd.func34, Tryd.ntmps34
  go_upto_region 1 with (fail)
  rw [HW.out]
  clear HW
  cases nx with
  | true =>
    have hx0 : x < 0 := by simpa using HNX.out
    cases ny with
    | true =>
      have hy0 : y < 0 := by simpa using HNY.out
      have HV : Hid (ordZ (val 10 Y) (val 10 X) = r) := hide (by rw [HVX.out, HVY.out, ← HR.out]; unfold ordZ; split <;> split <;> (try split) <;> (try split) <;> omega)
      go_wp2_with fail
      refine (rcmp_any b a cb ca Y X W hdb0 hda0 cy cx (by omega)).mono ?_
      rintro e w2 ⟨rfl, n, rfl⟩
      rw [HV.out]
      go_wp2_with fail
      go_ret
      exact ⟨rfl, below_drewN hB n⟩
    | false =>
      have hy0 : ¬ y < 0 := by simpa using HNY.out
      have HV : Hid (r = -1) := hide (by rw [← HR.out]; unfold ordZ; rw [if_pos (by omega)])
      go_wp2_with fail
      go_ret
      exact ⟨by rw [HV.out]; rfl, hB⟩
  | false =>
    have hx0 : ¬ x < 0 := by simpa using HNX.out
    cases ny with
    | true =>
      have hy0 : y < 0 := by simpa using HNY.out
      have HV : Hid (r = 1) := hide (by rw [← HR.out]; unfold ordZ; rw [if_neg (by omega), if_pos (by omega)])
      go_wp2_with fail
      go_ret
      exact ⟨by rw [HV.out]; rfl, hB⟩
    | false =>
      have hy0 : ¬ y < 0 := by simpa using HNY.out
      have HV : Hid (ordZ (val 10 X) (val 10 Y) = r) := hide (by rw [HVX.out, HVY.out, ← HR.out]; unfold ordZ; split <;> split <;> (try split) <;> (try split) <;> omega)
      go_wp2_with fail
      refine (rcmp_any a b ca cb X Y W hda0 hdb0 cx cy (by omega)).mono ?_
      rintro e w2 ⟨rfl, n, rfl⟩
      rw [HV.out]
      go_wp2_with fail
      go_ret
      exact ⟨rfl, below_drewN hB n⟩

section
variable {w c : World} {a b : Option Addr} {ca cb : Nat} {x y : List Nat}
theorem radd_at (hx : Dg .i64 w a x) (hy : Dg .i64 w b y) (dx : Digs 10 x) (dy : Digs 10 y) (hn : x.length ≤ 1099511627776) (hm : y.length ≤ 1099511627776) (hB : Below w.heap.size w c) :
    Calls Tryd.prog 71 #[.slice a x.length ca, .slice b y.length cb] c (DecPost c (val 10 x + val 10 y) (max x.length y.length + 1)) := radd_any a b ca cb x y c (hx.below hB (Nat.le_refl _)) (hy.below hB (Nat.le_refl _)) dx dy hn hm
theorem rsub_at (hx : Dg .i64 w a x) (hy : Dg .i64 w b y) (dx : Digs 10 x) (dy : Digs 10 y) (hn : x.length ≤ 1099511627776) (hle : y.length ≤ x.length) (hv : val 10 y ≤ val 10 x) (hB : Below w.heap.size w c) :
    Calls Tryd.prog 69 #[.slice a x.length ca, .slice b y.length cb] c (CanPost c (val 10 x - val 10 y)) := rsub_any a b ca cb x y c (hx.below hB (Nat.le_refl _)) (hy.below hB (Nat.le_refl _)) dx dy hn hle hv
end
theorem make1_can (neg : Bool) (a : Option Addr) (cap n : Nat) (c : World) (hd : Dg .i64 c a (dg 10 n)) (hf : Fit a (dg 10 n).length cap) (hn : (dg 10 n).length ≤ 2199023255552) :
    Calls Tryd.prog 62 #[.bool neg, .slice a (dg 10 n).length cap] c (NumPost c (signZ neg n)) := by
  have h := make1_any neg a cap (dg 10 n) c hd (dg_canon T2 n).1 hf hn
  rw [dg_val T2] at h
  exact h

set_option maxRecDepth 100000 in
set_option maxHeartbeats 1600000 in
theorem RAdd_any {x y : Int} {u v : Value} (w : World) (hx : NumV w u x) (hy : NumV w v y) (hn : Dm x) (hm : Dm y) :
    Calls Tryd.prog 26 #[u, v] w (NumPost w (x + y)) := by
  generalize hP : NumPost w (x + y) = Post
  have HP := hide hP
  clear hP
  obtain ⟨a, ca, rfl, ha, hda⟩ := hx
  obtain ⟨b, cb, rfl, hb, hdb⟩ := hy
  have cx := dg_canon T2 x.natAbs
  have cy := dg_canon T2 y.natAbs
  have HVX := hide (dg_val T2 x.natAbs)
  have HVY := hide (dg_val T2 y.natAbs)
  have hll : (dg 10 (x.natAbs - y.natAbs)).length ≤ (dg 10 x.natAbs).length := dg_len_mono T2 (by omega)
  have hll2 : (dg 10 (y.natAbs - x.natAbs)).length ≤ (dg 10 y.natAbs).length := dg_len_mono T2 (by omega)
  unfold Dm dlen at hn hm
  generalize dg 10 x.natAbs = X at *
  generalize dg 10 y.natAbs = Y at *
  generalize hnx : decide (x < 0) = nx at *
  generalize hny : decide (y < 0) = ny at *
  have HNX := hide hnx
  have HNY := hide hny
  clear hnx hny
  have dX : Digs 10 X := cx.1
  have dY : Digs 10 Y := cy.1
  have hsx : X.length ≤ 1099511627776 := by omega
  have hsy : Y.length ≤ 1099511627776 := by omega
  have hA : w.heap.size ≠ w.heap.size + 1 + 1 := by omega
  have hC : w.heap.size + 1 ≠ w.heap.size + 1 + 1 := by omega
  obtain ⟨W, hW⟩ : ∃ W, ((w.alloc (.cells #[.bool nx, .slice a X.length ca] 30)).alloc (.cells #[.bool ny, .slice b Y.length cb] 30)).alloc (.cells #[.bool false, .slice none 0 0] 30) = W := ⟨_, rfl⟩
  have hZ : Blk W w.heap.size 30 #[.bool nx, .slice a X.length ca] := by rw [← hW]; exact ((Blk.new w _ _).alloc _).alloc _
  have hZ2 : Blk W (w.heap.size + 1) 30 #[.bool ny, .slice b Y.length cb] := by rw [← hW]; exact (Blk.new_at _ _ _ (by simp)).alloc _
  have hZ3 : Blk W (w.heap.size + 1 + 1) 30 #[.bool false, .slice none 0 0] := by rw [← hW]; exact Blk.new_at _ _ _ (by simp)
  have hB : Below w.heap.size w W := by rw [← hW]; exact (((Below.refl _ _).alloc (Nat.le_refl _) _).alloc (by simp) _).alloc (by simp; omega) _
  have hK : Kp w 30 (w.heap.size + 1 + 1) W := ⟨hB, by omega, _, _, _, _, hZ3⟩
  have hda0 := hda.below hB (Nat.le_refl _)
  have hdb0 := hdb.below hB (Nat.le_refl _)
  obtain ⟨c0, c1, -⟩ := hZ.c2
  obtain ⟨d0, d1, -⟩ := hZ2.c2
  have HW := hide hW
  clear hW hZ hZ2 hZ3 hB
  go_enter Tryd.func26, Tryd.ntmps26
  go_upto_region 1 with (fail)
  rw [HW.out]
  clear HW
  by_cases hs : nx = ny
  · subst hs
    have HV : ∀ n, n = val 10 X + val 10 Y → Hid (signZ nx n = x + y) := fun n hh => hide (by
      rw [hh, HVX.out, HVY.out, ← HNX.out]
      have h1 := HNX.out
      have h2 := HNY.out
      unfold signZ
      by_cases h0 : x < 0
      · have h3 : y < 0 := by rw [← h1] at h2; simpa [h0] using h2
        simp [h0]; omega
      · have h3 : ¬ y < 0 := by rw [← h1] at h2; simpa [h0] using h2
        simp [h0]; omega)
    have HV := HV _ rfl
    go_upto_region 2 with (fail)
    have hK1 := hK.drew
    go_region_held3 (fun w' => w'.cell? ⟨w.heap.size, 0, none⟩ = some (.bool nx) ∧ w'.cell? ⟨w.heap.size, 1, none⟩ = some (.slice a X.length ca) ∧ w'.cell? ⟨w.heap.size + 1, 0, none⟩ = some (.bool nx) ∧ w'.cell? ⟨w.heap.size + 1, 1, none⟩ = some (.slice b Y.length cb) ∧ Kp w 30 (w.heap.size + 1 + 1) w')
      (first | with_reducible exact keepK4 (by assumption) hb1 | with_reducible exact keepP4 hA hA hC hC _ _ (isB_of _) (isS_of _ _ _) (by assumption) | go_keep)
      (first
        | (go_at_call 71; (with_reducible refine (radd_at hda hdb dX dY hsx hsy (by go_split_ands; exact Kp.bel (by assumption))).mono ?_); rintro e w1 ⟨ra, rc, rs, rfl, hrf, hrd, hrD, hrv, hrl, hb1⟩)
        | (go_at_call 62; (with_reducible refine (make1_any nx ra rc rs _ hrd hrD hrf (by omega)).mono ?_); rintro e w2 ⟨r, rfl, hrI, hb1⟩; obtain ⟨rn, rb, rl, rk, rfl⟩ := hrI.parts; obtain ⟨_, _, _, _, k0, k1, kf0, kf1, hX4⟩ := Kp.at (c := w1) (t := 30) (g := w.heap.size + 1 + 1) (w := w) (by go_split_ands; assumption) hb1))
    rename_i hS
    have hKf := hS.2.2.2.2
    obtain ⟨e0, e1, -⟩ := (hX4.two (.bool rn) (.slice rb rl rk)).c2
    have hI := hrI.store hX4 (.bool rn) (.slice rb rl rk)
    rw [hrv, HV.out] at hI
    go_wp2_with fail
    refine bodyPost_ret (v := .agg #[.bool rn, .slice rb rl rk]) (by simp [results, Tryd.results26, go_sem, e0, e1]) rfl ?_
    rw [← HP.out]
    exact ⟨_, rfl, hI, hKf.1⟩
  · have e1 : (nx == ny) = false := beq_eq_false_iff_ne.2 hs
    have HNE := hide hs
    clear hs
    go_wp2_with fail
    refine (rcmp_any a b ca cb X Y W hda0 hdb0 cx cy (by omega)).mono ?_
    rintro e w2 ⟨rfl, n, rfl⟩
    have hS2 : (W.drewN n).cell? ⟨w.heap.size, 0, none⟩ = some (.bool nx) ∧ (W.drewN n).cell? ⟨w.heap.size, 1, none⟩ = some (.slice a X.length ca) ∧ (W.drewN n).cell? ⟨w.heap.size + 1, 0, none⟩ = some (.bool ny) ∧ (W.drewN n).cell? ⟨w.heap.size + 1, 1, none⟩ = some (.slice b Y.length cb) ∧ Kp w 30 (w.heap.size + 1 + 1) (W.drewN n) := ⟨c0, c1, d0, d1, hK.drewN n⟩
    generalize W.drewN n = W2 at hS2 ⊢
    clear hK hda0 hdb0 c0 c1 d0 d1
    obtain ⟨c0, c1, d0, d1, hK⟩ := hS2
    by_cases hlt : val 10 X < val 10 Y
    · have HV : Hid (signZ ny (val 10 Y - val 10 X) = x + y) := hide (by
        have h1 := HNX.out
        have h2 := HNY.out
        have h3 := HNE.out
        rw [HVX.out, HVY.out] at *
        unfold signZ
        by_cases h0 : y < 0
        · have h4 : ¬ x < 0 := by intro h4; exact h3 (by rw [← h1, ← h2]; simp [h0, h4])
          rw [← h2]; simp [h0]; omega
        · have h4 : x < 0 := by rcases Int.lt_or_le x 0 with h4 | h4; exact h4; exact absurd (by rw [← h1, ← h2]; simp [h0]; omega) h3
          rw [← h2]; simp [h0]; omega)
      have hlen : X.length ≤ Y.length := by
        rcases Nat.lt_or_ge Y.length X.length with h | h
        · have := cy.lt_of_len cx h; omega
        · exact h
      have hv : val 10 X ≤ val 10 Y := by omega
      rw [← HVX.out, ← HVY.out] at hll2
      rw [show ordZ (val 10 X) (val 10 Y) = -1 by unfold ordZ; rw [if_pos (by omega)]]
      clear hlt
      have e2 : decide ((0 : Int) ≤ -1) = false := rfl
      go_upto_region 5 with (fail)
      have hK1 := hK.drew
      go_region_held3 (fun w' => w'.cell? ⟨w.heap.size, 0, none⟩ = some (.bool nx) ∧ w'.cell? ⟨w.heap.size, 1, none⟩ = some (.slice a X.length ca) ∧ w'.cell? ⟨w.heap.size + 1, 0, none⟩ = some (.bool ny) ∧ w'.cell? ⟨w.heap.size + 1, 1, none⟩ = some (.slice b Y.length cb) ∧ Kp w 30 (w.heap.size + 1 + 1) w')
        (first | with_reducible exact keepK4 (by assumption) hb1 | with_reducible exact keepP4 hA hA hC hC _ _ (isB_of _) (isS_of _ _ _) (by assumption) | go_keep)
        (first
          | (go_at_call 69; (with_reducible refine (rsub_at hdb hda dY dX hsy hlen hv (by go_split_ands; exact Kp.bel (by assumption))).mono ?_); rintro e w1 ⟨ra, rc, rfl, hrf, hrd, hfr, hb1⟩)
          | (go_at_call 62; (with_reducible refine (make1_can ny ra rc (val 10 Y - val 10 X) _ hrd hrf (by omega)).mono ?_); rintro e w2 ⟨r, rfl, hrI, hb1⟩; obtain ⟨rn, rb, rl, rk, rfl⟩ := hrI.parts; obtain ⟨_, _, _, _, k0, k1, kf0, kf1, hX4⟩ := Kp.at (c := w1) (t := 30) (g := w.heap.size + 1 + 1) (w := w) (by go_split_ands; assumption) hb1))
      rename_i hS
      have hKf := hS.2.2.2.2
      obtain ⟨e0, e1, -⟩ := (hX4.two (.bool rn) (.slice rb rl rk)).c2
      have hI := hrI.store hX4 (.bool rn) (.slice rb rl rk)
      rw [HV.out] at hI
      go_wp2_with fail
      refine bodyPost_ret (v := .agg #[.bool rn, .slice rb rl rk]) (by simp [results, Tryd.results26, go_sem, e0, e1]) rfl ?_
      rw [← HP.out]
      exact ⟨_, rfl, hI, hKf.1⟩
    · have HV : Hid (signZ nx (val 10 X - val 10 Y) = x + y) := hide (by
        have h1 := HNX.out
        have h2 := HNY.out
        have h3 := HNE.out
        rw [HVX.out, HVY.out] at *
        unfold signZ
        by_cases h0 : x < 0
        · have h4 : ¬ y < 0 := by intro h4; exact h3 (by rw [← h1, ← h2]; simp [h0, h4])
          rw [← h1]; simp [h0]; omega
        · have h4 : y < 0 := by rcases Int.lt_or_le y 0 with h4 | h4; exact h4; exact absurd (by rw [← h1, ← h2]; simp [h0]; omega) h3
          rw [← h1]; simp [h0]; omega)
      have hlen : Y.length ≤ X.length := by
        rcases Nat.lt_or_ge X.length Y.length with h | h
        · have := cx.lt_of_len cy h; omega
        · exact h
      have hv : val 10 Y ≤ val 10 X := by omega
      rw [← HVX.out, ← HVY.out] at hll
      have ho : 0 ≤ ordZ (val 10 X) (val 10 Y) := by unfold ordZ; rw [if_neg (by omega)]; split <;> omega
      generalize ordZ (val 10 X) (val 10 Y) = o at ho ⊢
      have e2 : decide ((0 : Int) ≤ o) = true := decide_eq_true ho
      clear hlt
      go_upto_region 4 with (fail)
      have hK1 := hK.drew
      go_region_held3 (fun w' => w'.cell? ⟨w.heap.size, 0, none⟩ = some (.bool nx) ∧ w'.cell? ⟨w.heap.size, 1, none⟩ = some (.slice a X.length ca) ∧ w'.cell? ⟨w.heap.size + 1, 0, none⟩ = some (.bool ny) ∧ w'.cell? ⟨w.heap.size + 1, 1, none⟩ = some (.slice b Y.length cb) ∧ Kp w 30 (w.heap.size + 1 + 1) w')
        (first | with_reducible exact keepK4 (by assumption) hb1 | with_reducible exact keepP4 hA hA hC hC _ _ (isB_of _) (isS_of _ _ _) (by assumption) | go_keep)
        (first
          | (go_at_call 69; (with_reducible refine (rsub_at hda hdb dX dY hsx hlen hv (by go_split_ands; exact Kp.bel (by assumption))).mono ?_); rintro e w1 ⟨ra, rc, rfl, hrf, hrd, hfr, hb1⟩)
          | (go_at_call 62; (with_reducible refine (make1_can nx ra rc (val 10 X - val 10 Y) _ hrd hrf (by omega)).mono ?_); rintro e w2 ⟨r, rfl, hrI, hb1⟩; obtain ⟨rn, rb, rl, rk, rfl⟩ := hrI.parts; obtain ⟨_, _, _, _, k0, k1, kf0, kf1, hX4⟩ := Kp.at (c := w1) (t := 30) (g := w.heap.size + 1 + 1) (w := w) (by go_split_ands; assumption) hb1))
      rename_i hS
      have hKf := hS.2.2.2.2
      obtain ⟨e0, e1, -⟩ := (hX4.two (.bool rn) (.slice rb rl rk)).c2
      have hI := hrI.store hX4 (.bool rn) (.slice rb rl rk)
      rw [HV.out] at hI
      go_wp2_with fail
      refine bodyPost_ret (v := .agg #[.bool rn, .slice rb rl rk]) (by simp [results, Tryd.results26, go_sem, e0, e1]) rfl ?_
      rw [← HP.out]
      exact ⟨_, rfl, hI, hKf.1⟩
end Go.Proofs.YthpibilefdmemaaDoor
