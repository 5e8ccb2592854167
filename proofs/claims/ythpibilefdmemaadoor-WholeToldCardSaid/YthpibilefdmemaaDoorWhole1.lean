/- whole.Right, right, signed, compare: by their contracts. -/
import Derived.Test.YthpibilefdmemaaDoorNumMem
namespace Go.Proofs.YthpibilefdmemaaDoor
open Go.RowKit

set_option maxHeartbeats 800000 in
theorem Right_any (neg : Bool) (a : Option Addr) (cap : Nat) (ds : List Nat) (w : World) (hd : Dg .u32 w a ds) (hn : ds.length ≤ 9223372036854775807) :
    Calls Tryd.prog 16 #[.agg #[.bool neg, .slice a ds.length cap]] w fun e w' => e = .returned (.bool (rightB neg ds)) ∧ Below w.heap.size w w' := by
  generalize hr : rightB neg ds = r
  have HR := hide hr
  clear hr
  have hb0 : Below w.heap.size w (w.alloc (.cells #[.bool neg, .slice a ds.length cap] 24)) := (Below.refl _ _).alloc (Nat.le_refl _) _
  have hX := Blk.new w 24 #[.bool neg, .slice a ds.length cap]
  have hd0 := hd.below hb0 (Nat.le_refl _)
  rcases Nat.eq_zero_or_pos ds.length with h0 | h0
  · obtain rfl := List.eq_nil_of_length_eq_zero h0
    go_enter Tryd.func16, Tryd.ntmps16
    go_wp2_with fail
    go_ret
    exact ⟨by rw [← HR.out]; rfl, hb0⟩
  · have e0 : ((ds.length : Int) == 0) = false := beq_eq_false_iff_ne.2 (by omega)
    go_enter Tryd.func16, Tryd.ntmps16
    go_wp2_with fail
    generalize hW : w.alloc (.cells #[.bool neg, .slice a ds.length cap] 24) = W at hb0 hX hd0 ⊢
    clear hW
    obtain ⟨c0, c1, -⟩ := hX.c2
    go_loop [15] (fun v => ∃ j : Nat, j ≤ ds.length ∧ v = .int .i64 (j : Int) ∧ (ds.take j).all (fun d => decide (d < BB)) = true) (fun v => ds.length - (intOf v).toNat)
    case atStart => exact ⟨0, Nat.zero_le _, rfl, by simp⟩
    case round =>
      obtain ⟨j, hj, rfl, hall⟩ := hrel
      have HA := hide hall
      clear hall
      rcases Nat.lt_or_ge j ds.length with hlt | hge
      · obtain ⟨b, off, rfl, hc, _⟩ := hd0.at hlt
        have hsn := List.take_succ_eq_append_getElem hlt
        have hmem : ds[j] ∈ ds := List.getElem_mem hlt
        by_cases hbig : ds[j] < BB
        · have hlt2 : ¬ (1000000000 : Int) ≤ (ds[j] : Int) := by have := BB_eq; omega
          have HN : Hid ((ds.take (j + 1)).all (fun d => decide (d < BB)) = true) := hide (by rw [hsn, List.all_append, HA.out]; simp [hbig])
          generalize ds[j] = d at hc hlt2
          clear hsn hmem hbig
          go_wp2_with fail
          go_round
          case rel => exact ⟨j + 1, by omega, by go_num, HN.out⟩
          case measure => simp [intOf]; omega
        · have hge2 : (1000000000 : Int) ≤ (ds[j] : Int) := by have := BB_eq; omega
          have hf : rightB neg ds = false := by
            unfold rightB
            rw [if_neg (by intro h; rw [List.isEmpty_iff.1 h] at h0; simp at h0)]
            have : ds.all (fun d => decide (d < BB)) = false := by
              rw [List.all_eq_false]
              exact ⟨_, hmem, by simpa using hbig⟩
            rw [this]; rfl
          have HF := hide hf
          generalize ds[j] = d at hc hge2
          clear hsn hmem hbig hf
          go_wp2_with fail
          go_ret
          exact ⟨by rw [← HR.out, HF.out]; rfl, hb0⟩
      · obtain rfl : j = ds.length := by omega
        obtain ⟨b, off, rfl, hc, _⟩ := hd0.at (i := ds.length - 1) (by omega)
        have hl : ds.getLastD 1 = ds[ds.length - 1] := by
          rcases snoc_cases ds with rfl | ⟨r, d, rfl⟩
          · simp at h0
          · simp
        have hv : rightB neg ds = !(ds[ds.length - 1] == 0) := by
          unfold rightB
          rw [if_neg (by intro h; rw [List.isEmpty_iff.1 h] at h0; simp at h0)]
          have h := HA.out
          rw [List.take_length] at h
          rw [h, hl]; rfl
        have HV := hide hv
        generalize ds[ds.length - 1] = d at hc HV
        clear hl hv
        cases hz : (d == 0) with
        | true =>
          obtain rfl : d = 0 := by simpa using hz
          go_wp2_with fail
          go_ret
          exact ⟨by rw [← HR.out, HV.out]; rfl, hb0⟩
        | false =>
          have e1 : ((d : Int) != 0) = true := by simp at hz ⊢; omega
          have e2 : ((d : Int) == 0) = false := by simp at hz ⊢; omega
          go_wp2_with fail
          go_ret
          exact ⟨by rw [← HR.out, HV.out, hz]; rfl, hb0⟩

theorem trim_take {ds : List Nat} {j : Nat} (hj : j < ds.length) (h : ds[j] = 0) : trim (ds.take (j + 1)) = trim (ds.take j) := by
  rw [List.take_succ_eq_append_getElem hj, h, trim_snoc_zero]
theorem trim_take_self {ds : List Nat} {j : Nat} (hj : j < ds.length) (h : ds[j] ≠ 0) : trim (ds.take (j + 1)) = ds.take (j + 1) := by
  rw [List.take_succ_eq_append_getElem hj, trim_snoc h]
theorem signZ_abs (neg : Bool) (n : Nat) : (signZ neg n).natAbs = n := by cases neg <;> simp [signZ]
theorem signZ_neg {neg : Bool} {n : Nat} (h : n ≠ 0) : decide (signZ neg n < 0) = neg := by cases neg <;> simp [signZ] <;> omega

theorem Blk.two {w : World} {g : Nat} {t : TypeId} {a b : Value} (h : Blk w g t #[a, b]) (x y : Value) : Blk ((w.setCell ⟨g, 0, none⟩ x).setCell ⟨g, 1, none⟩ y) g t #[x, y] := (h.set_ 0 x).set_ 1 y

/-- An integer that was made out of digits. -/
theorem intV_of {w : World} {neg : Bool} {a : Option Addr} {cap n : Nat} {ds : List Nat} (hD : Digs BB ds) (hd : Dg .u32 w a (trim ds)) (hn : n = (trim ds).length) (hc : Fit a n cap) (h0 : trim ds = [] → neg = false) : IntV w (.agg #[.bool neg, .slice a n cap]) (signZ neg (val BB ds)) := by
  subst hn
  have e := trim_dg BB2 hD
  have h1 : decide (signZ neg (val BB ds) < 0) = neg := by
    rcases Nat.eq_zero_or_pos (val BB ds) with hz | hz
    · have : trim ds = [] := by rw [e, hz]; rfl
      rw [h0 this, hz]; rfl
    · exact signZ_neg (by omega)
  unfold IntV
  rw [signZ_abs, ← e, h1]
  exact ⟨a, cap, rfl, hc, hd⟩

set_option maxHeartbeats 800000 in
theorem signed_any (neg : Bool) (a : Option Addr) (cap : Nat) (ds : List Nat) (w : World) (hd : Dg .u32 w a ds) (hD : Digs BB ds) (hfit : ds.length ≤ cap) (hn : ds.length ≤ 4611686018427387904) :
    Calls Tryd.prog 61 #[.bool neg, .slice a ds.length cap] w (IntPost w (signZ neg (val BB ds))) := by
  generalize hP : IntPost w (signZ neg (val BB ds)) = Post
  have HP := hide hP
  clear hP
  have hb0 : Below w.heap.size w (w.alloc (.cells #[.bool false, .slice none 0 0] 24)) := (Below.refl _ _).alloc (Nat.le_refl _) _
  have hX := Blk.new w 24 #[.bool false, .slice none 0 0]
  have hd0 := hd.below hb0 (Nat.le_refl _)
  go_enter Tryd.func61, Tryd.ntmps61
  go_wp2_with fail
  generalize hW : w.alloc (.cells #[.bool false, .slice none 0 0] 24) = W at hb0 hX hd0 ⊢
  clear hW
  obtain ⟨c0, c1, cf⟩ := hX.c2
  have hlt := hX.lt
  go_loop [5] (fun v => ∃ j : Nat, j ≤ ds.length ∧ v = .int .i64 (j : Int) ∧ Hid (trim ds = trim (ds.take j))) (fun v => (intOf v).toNat)
  case atStart => exact ⟨ds.length, Nat.le_refl _, rfl, hide (by rw [List.take_length])⟩
  case round =>
    obtain ⟨j, hj, rfl, HT⟩ := hrel
    rcases Nat.eq_zero_or_pos j with h0 | h0
    · subst h0
      have hz : val BB ds = 0 := by rw [← trim_val, HT.out]; rfl
      have HZ := hide hz
      clear hz
      go_wp2_with fail
      obtain ⟨d0, d1, -⟩ := (hX.two (.bool false) (.slice none 0 0)).c2
      refine bodyPost_ret (v := .agg #[.bool false, .slice none 0 0]) (by simp [results, Tryd.results61, go_sem, d0, d1]) rfl ?_
      rw [← HP.out, HZ.out]
      exact ⟨_, rfl, by cases neg <;> exact IntV.zero _, (hb0.setCell (Nat.le_refl _) _).setCell (Nat.le_refl _) _⟩
    · obtain ⟨i, rfl⟩ : ∃ i, j = i + 1 := ⟨j - 1, by omega⟩
      have hi : i < ds.length := by omega
      obtain ⟨b, off, rfl, hc, _⟩ := hd0.at hi
      have hpos : decide ((0 : Int) < ((i + 1 : Nat) : Int)) = true := by simp
      by_cases hz : ds[i] = 0
      · have HT2 : Hid (trim ds = trim (ds.take i)) := hide (by rw [HT.out, trim_take hi hz])
        rw [hz] at hc
        go_wp2_with fail
        go_round
        case rel => exact ⟨i, by omega, by go_num, HT2⟩
        case measure => simp [intOf]
      · have HT2 : Hid (trim ds = ds.take (i + 1)) := hide (by rw [HT.out, trim_take_self hi hz])
        have e1 : ((ds[i] : Int) == 0) = false := beq_eq_false_iff_ne.2 (by omega)
        have e3 : (((i + 1 : Nat) : Int) == 0) = false := beq_eq_false_iff_ne.2 (by omega)
        have hs1 := fun w => run_upto32 w (some ⟨b, off, none⟩) ds.length cap (i + 1) ((i + 1 : Nat) : Int) rfl (by omega)
        generalize ds[i] = d at hc e1
        go_wp2_with fail
        obtain ⟨d0, d1, -⟩ := (hX.two (.bool neg) (.slice (some ⟨b, off, none⟩) (i + 1) cap)).c2
        refine bodyPost_ret (v := .agg #[.bool neg, .slice (some ⟨b, off, none⟩) (i + 1) cap]) (by simp [results, Tryd.results61, go_sem, d0, d1]) rfl ?_
        have hB2 := (hb0.setCell (p := ⟨w.heap.size, 0, none⟩) (Nat.le_refl _) (.bool neg)).setCell (p := ⟨w.heap.size, 1, none⟩) (Nat.le_refl _) (.slice (some ⟨b, off, none⟩) (i + 1) cap)
        rw [← HP.out]
        refine ⟨_, rfl, intV_of hD ?_ ?_ ⟨by omega, fun h => by cases h⟩ ?_, hB2⟩
        · rw [HT2.out]; exact (hd.below hB2 (Nat.le_refl _)).take _
        · rw [HT2.out, List.length_take]; omega
        · rw [HT2.out]
          intro h
          have := congrArg List.length h
          rw [List.length_take, List.length_nil] at this
          omega

/-- 'right' of an integer that may be is itself. -/
theorem right_any {x : Int} {v : Value} (w : World) (hx : IntV w v x) (hn : Sm x) :
    Calls Tryd.prog 63 #[v] w fun e w' => e = .returned v ∧ Below w.heap.size w w' := by
  obtain ⟨a, cap, rfl, hc, hd⟩ := hx
  have HR := hide (rightB_dg x)
  unfold Sm len at hn
  replace hn : (dg BB x.natAbs).length ≤ 4611686018427387904 := by omega
  generalize dg BB x.natAbs = ds at *
  generalize decide (x < 0) = neg at *
  go_enter Tryd.func63, Tryd.ntmps63
  go_wp2_with fail
  have hb0 : Below w.heap.size w ((w.alloc (.cells #[.bool neg, .slice a ds.length cap] 24)).alloc (.cells #[.bool false, .slice none 0 0] 24)) := ((Below.refl _ _).alloc (Nat.le_refl _) _).alloc (by simp) _
  have hX := (Blk.new w 24 #[.bool neg, .slice a ds.length cap]).alloc (.cells #[.bool false, .slice none 0 0] 24)
  have hY := Blk.new (w.alloc (.cells #[.bool neg, .slice a ds.length cap] 24)) 24 #[.bool false, .slice none 0 0]
  rw [World.size_alloc] at hY
  generalize (w.alloc (.cells #[.bool neg, .slice a ds.length cap] 24)).alloc (.cells #[.bool false, .slice none 0 0] 24) = W at hb0 hX hY ⊢
  refine (Right_any neg a cap ds W (hd.below hb0 (Nat.le_refl _)) (by omega)).mono ?_
  rintro e w1 ⟨rfl, hb1⟩
  rw [HR.out]
  replace hX := hX.below hb1 hX.lt
  replace hY := hY.below hb1 hY.lt
  have hB1 : Below w.heap.size w w1 := hb0.trans (hb1.mono hb0.size)
  clear hb0 hb1
  obtain ⟨c0, c1, -⟩ := hX.c2
  obtain ⟨d0, d1, df⟩ := hY.c2
  have hlt := hY.lt
  go_wp2_with fail
  obtain ⟨d0, d1, -⟩ := (hY.two (.bool neg) (.slice a ds.length cap)).c2
  refine bodyPost_ret (v := .agg #[.bool neg, .slice a ds.length cap]) (by simp [results, Tryd.results63, go_sem, d0, d1]) rfl ?_
  exact ⟨rfl, (hB1.setCell (by simp) _).setCell (by simp) _⟩

theorem cmp_len {x y : List Nat} (hx : Canon BB x) (hy : Canon BB y) : x.length < y.length → val BB x < val BB y := hx.lt_of_len hy
/-- Where the later digits are one, the first that differ tell. -/
theorem cmp_at {x y : List Nat} (hx : Digs BB x) (hl : x.length = y.length) {i : Nat} (hi : i < x.length) (hs : x.drop (i + 1) = y.drop (i + 1)) (h : x[i] < y[i]'(by omega)) : val BB x < val BB y := by
  have e1 := val_take_drop BB x i (by omega)
  have e2 := val_take_drop BB y i (by omega)
  rw [List.drop_eq_getElem_cons hi, val] at e1
  rw [List.drop_eq_getElem_cons (show i < y.length by omega), val] at e2
  have hlt := val_lt (hx.take i)
  rw [List.length_take, Nat.min_eq_left (by omega)] at hlt
  rw [hs] at e1
  have hm : BB ^ i * (x[i] + 1 + BB * val BB (y.drop (i + 1))) ≤ BB ^ i * (y[i] + BB * val BB (y.drop (i + 1))) := Nat.mul_le_mul_left _ (by omega)
  have e3 : BB ^ i * (x[i] + 1 + BB * val BB (y.drop (i + 1))) = BB ^ i * (x[i] + BB * val BB (y.drop (i + 1))) + BB ^ i := by
    rw [show x[i] + 1 + BB * val BB (y.drop (i + 1)) = (x[i] + BB * val BB (y.drop (i + 1))) + 1 by omega, Nat.mul_add, Nat.mul_one]
  omega

set_option maxHeartbeats 800000 in
theorem compare_any (a b : Option Addr) (ca cb : Nat) (x y : List Nat) (w : World) (hx : Dg .u32 w a x) (hy : Dg .u32 w b y) (cx : Canon BB x) (cy : Canon BB y) (hn : x.length ≤ 4611686018427387904) :
    Calls Tryd.prog 70 #[.slice a x.length ca, .slice b y.length cb] w fun e w' => e = .returned (.int .i64 (ordZ (val BB x) (val BB y))) ∧ ∃ n, w' = w.drewN n := by
  generalize hr : ordZ (val BB x) (val BB y) = r
  have HR := hide hr
  clear hr
  by_cases hl : x.length = y.length
  · have e0 : ((x.length : Int) != (y.length : Int)) = false := by simp; omega
    have e0' : ((x.length : Int) == (y.length : Int)) = true := by simp; omega
    have HL := hide hl
    clear hl
    go_enter Tryd.func70, Tryd.ntmps70
    go_wp2_with fail
    go_loopg [5] x.length (fun k v wr => ∃ n : Nat, v = .int .i64 ((k : Int) - 1) ∧ k ≤ x.length ∧ Hid (x.drop k = y.drop k) ∧ wr = w.drewN n)
    case atStart => exact ⟨0, by have := HL.out; simp <;> omega, Nat.le_refl _, hide (by rw [List.drop_length, HL.out, List.drop_length]), rfl⟩
    case round =>
      obtain ⟨n, rfl, hk, HD, rfl⟩ := hrel
      rcases gk with _ | k
      · have hxy : x = y := by have := HD.out; simpa using this
        have HV : Hid (ordZ (val BB x) (val BB y) = 0) := hide (by rw [hxy]; unfold ordZ; rw [if_neg (by omega), if_neg (by omega)])
        clear hxy
        rw [show (((0 : Nat) : Int) - 1) = -1 by omega]
        go_wp2_with fail
        go_ret
        exact ⟨by rw [← HR.out, HV.out]; rfl, n, rfl⟩
      · have hk1 : k < x.length := by omega
        have hk2 : k < y.length := by have := HL.out; omega
        obtain ⟨p, po, rfl, hc, _⟩ := hx.at hk1
        obtain ⟨q, qo, rfl, hd, _⟩ := hy.at hk2
        have HU1 : Hid (x[k] < y[k] → ordZ (val BB x) (val BB y) = -1) := hide (fun h => by
          have := cmp_at cx.1 HL.out hk1 HD.out h
          unfold ordZ; rw [if_pos (by omega)])
        have HU2 : Hid (y[k] < x[k] → ordZ (val BB x) (val BB y) = 1) := hide (fun h => by
          have := cmp_at cy.1 HL.out.symm hk2 HD.out.symm h
          unfold ordZ; rw [if_neg (by omega), if_pos (by omega)])
        have HU3 : Hid (x[k] = y[k] → x.drop k = y.drop k) := hide (fun h => by
          rw [List.drop_eq_getElem_cons hk1, List.drop_eq_getElem_cons hk2, h, HD.out])
        generalize x[k] = c at hc HU1 HU2 HU3
        generalize y[k] = d at hd HU1 HU2 HU3
        rw [show (((k + 1 : Nat) : Int) - 1) = (k : Int) by omega]
        clear HD
        rcases Nat.lt_trichotomy c d with h | h | h
        · have t1 : decide ((c : Int) < (d : Int)) = true := by simp; omega
          have t1' : decide (c < d) = true := by simp; omega
          have HV := hide (HU1.out h)
          clear HU1 HU2 HU3 h
          go_wp2_with fail
          go_quiet (fail)
          go_wp2_with fail
          go_ret
          exact ⟨by rw [← HR.out, HV.out]; rfl, drew2⟩
        · subst h
          have HV := hide (HU3.out rfl)
          clear HU1 HU2 HU3
          have t1 : decide ((c : Int) < (c : Int)) = false := by simp
          go_wp2_with fail
          go_quiet (fail)
          go_wp2_with fail
          go_quiet (fail)
          go_wp2_with fail
          go_roundg k
          case measure => omega
          case rel => exact ⟨_, by go_num, by omega, HV, rfl⟩
        · have t1 : decide ((c : Int) < (d : Int)) = false := by simp; omega
          have t2 : decide ((d : Int) < (c : Int)) = true := by simp; omega
          have t1' : decide (c < d) = false := by simp; omega
          have t2' : decide (d < c) = true := by simp; omega
          have HV := hide (HU2.out h)
          clear HU1 HU2 HU3 h
          go_wp2_with fail
          go_quiet (fail)
          go_wp2_with fail
          go_quiet (fail)
          go_wp2_with fail
          go_ret
          exact ⟨by rw [← HR.out, HV.out]; rfl, drew3⟩
  · have e0 : ((x.length : Int) != (y.length : Int)) = true := by simp; omega
    have e0' : ((x.length : Int) == (y.length : Int)) = false := by simp; omega
    rcases Nat.lt_or_gt_of_ne hl with h | h
    · have hlt : (x.length : Int) < (y.length : Int) := by omega
      have HV : Hid (ordZ (val BB x) (val BB y) = -1) := hide (by have := cx.lt_of_len cy h; unfold ordZ; rw [if_pos (by omega)])
      clear hl h
      go_enter Tryd.func70, Tryd.ntmps70
      go_wp2_with fail
      go_ret
      exact ⟨by rw [← HR.out, HV.out]; rfl, 0, rfl⟩
    · have hlt : ¬ (x.length : Int) < (y.length : Int) := by omega
      have HV : Hid (ordZ (val BB x) (val BB y) = 1) := hide (by have := cy.lt_of_len cx h; unfold ordZ; rw [if_neg (by omega), if_pos (by omega)])
      clear hl h
      go_enter Tryd.func70, Tryd.ntmps70
      go_wp2_with fail
      go_ret
      exact ⟨by rw [← HR.out, HV.out]; rfl, 0, rfl⟩
end Go.Proofs.YthpibilefdmemaaDoor
