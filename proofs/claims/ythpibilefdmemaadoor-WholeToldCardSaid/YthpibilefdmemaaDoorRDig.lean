/- collatorref01's cmp, add, sub: by their contracts. -/
import Derived.Test.YthpibilefdmemaaDoorRNum
namespace Go.Proofs.YthpibilefdmemaaDoor
open Go.RowKit

theorem cmp_atb {b : Nat} {x y : List Nat} (hx : Digs b x) (hl : x.length = y.length) {i : Nat} (hi : i < x.length) (hs : x.drop (i + 1) = y.drop (i + 1)) (h : x[i] < y[i]'(by omega)) : val b x < val b y := by
  have e1 := val_take_drop b x i (by omega)
  have e2 := val_take_drop b y i (by omega)
  rw [List.drop_eq_getElem_cons hi, val] at e1
  rw [List.drop_eq_getElem_cons (show i < y.length by omega), val] at e2
  have hlt := val_lt (hx.take i)
  rw [List.length_take, Nat.min_eq_left (by omega)] at hlt
  rw [hs] at e1
  have hm : b ^ i * (x[i] + 1 + b * val b (y.drop (i + 1))) ≤ b ^ i * (y[i] + b * val b (y.drop (i + 1))) := Nat.mul_le_mul_left _ (by omega)
  have e3 : b ^ i * (x[i] + 1 + b * val b (y.drop (i + 1))) = b ^ i * (x[i] + b * val b (y.drop (i + 1))) + b ^ i := by
    rw [show x[i] + 1 + b * val b (y.drop (i + 1)) = (x[i] + b * val b (y.drop (i + 1))) + 1 by omega, Nat.mul_add, Nat.mul_one]
  omega
theorem tval_take_succ {ds : List Nat} {j : Nat} (hj : j < ds.length) : val 10 (ds.take (j + 1)) = val 10 (ds.take j) + 10 ^ j * ds[j] := by
  rw [List.take_succ_eq_append_getElem hj, val_snoc, List.length_take, Nat.min_eq_left (by omega)]
theorem tval_take_ge {ds : List Nat} {j : Nat} (hj : ds.length ≤ j) : val 10 (ds.take (j + 1)) = val 10 (ds.take j) + 10 ^ j * 0 := by
  rw [List.take_of_length_le hj, List.take_of_length_le (by omega)]; rfl

set_option maxHeartbeats 800000 in
theorem rcmp_any (a b : Option Addr) (ca cb : Nat) (x y : List Nat) (w : World) (hx : Dg .i64 w a x) (hy : Dg .i64 w b y) (cx : Canon 10 x) (cy : Canon 10 y) (hn : x.length ≤ 4611686018427387904) :
    Calls Tryd.prog 68 #[.slice a x.length ca, .slice b y.length cb] w fun e w' => e = .returned (.int .i64 (ordZ (val 10 x) (val 10 y))) ∧ ∃ n, w' = w.drewN n := by
  generalize hr : ordZ (val 10 x) (val 10 y) = r
  have HR := hide hr
  clear hr
  by_cases hl : x.length = y.length
  · have e0 : ((x.length : Int) != (y.length : Int)) = false := by simp; omega
    have e0' : ((x.length : Int) == (y.length : Int)) = true := by simp; omega
    have HL := hide hl
    clear hl
    go_enter Tryd.func68, Tryd.ntmps68
    go_wp2_with fail
    go_loopg [5] x.length (fun k v wr => ∃ n : Nat, v = .int .i64 ((k : Int) - 1) ∧ k ≤ x.length ∧ Hid (x.drop k = y.drop k) ∧ wr = w.drewN n)
    case atStart => exact ⟨0, by have := HL.out; simp <;> omega, Nat.le_refl _, hide (by rw [List.drop_length, HL.out, List.drop_length]), rfl⟩
    case round =>
      obtain ⟨n, rfl, hk, HD, rfl⟩ := hrel
      rcases gk with _ | k
      · have hxy : x = y := by have := HD.out; simpa using this
        have HV : Hid (ordZ (val 10 x) (val 10 y) = 0) := hide (by rw [hxy]; unfold ordZ; rw [if_neg (by omega), if_neg (by omega)])
        clear hxy
        rw [show (((0 : Nat) : Int) - 1) = -1 by omega]
        go_wp2_with fail
        go_ret
        exact ⟨by rw [← HR.out, HV.out]; rfl, n, rfl⟩
      · have hk1 : k < x.length := by omega
        have hk2 : k < y.length := by have := HL.out; omega
        obtain ⟨p, po, rfl, hc, _⟩ := hx.at hk1
        obtain ⟨q, qo, rfl, hd, _⟩ := hy.at hk2
        have HU1 : Hid (x[k] < y[k] → ordZ (val 10 x) (val 10 y) = -1) := hide (fun h => by
          have := cmp_atb cx.1 HL.out hk1 HD.out h
          unfold ordZ; rw [if_pos (by omega)])
        have HU2 : Hid (y[k] < x[k] → ordZ (val 10 x) (val 10 y) = 1) := hide (fun h => by
          have := cmp_atb cy.1 HL.out.symm hk2 HD.out.symm h
          unfold ordZ; rw [if_neg (by omega), if_pos (by omega)])
        have HU3 : Hid (x[k] = y[k] → x.drop k = y.drop k) := hide (fun h => by
          rw [List.drop_eq_getElem_cons hk1, List.drop_eq_getElem_cons hk2, h, HD.out])
        generalize x[k] = c at hc HU1 HU2 HU3
        generalize y[k] = d at hd HU1 HU2 HU3
        rw [show (((k + 1 : Nat) : Int) - 1) = (k : Int) by omega]
        clear HD
        rcases Nat.lt_trichotomy c d with h | h | h
        · have t1 : ((c : Int) != (d : Int)) = true := by simp; omega
          have t1' : ((c : Int) == (d : Int)) = false := by simp; omega
          have t2 : decide ((c : Int) < (d : Int)) = true := by simp; omega
          have t2' : decide (c < d) = true := by simp; omega
          have HV := hide (HU1.out h)
          clear HU1 HU2 HU3 h
          go_wp2_with fail
          go_quiet (fail)
          go_wp2_with fail
          go_quiet (fail)
          go_wp2_with fail
          go_ret
          exact ⟨by rw [← HR.out, HV.out]; rfl, drew3⟩
        · subst h
          have HV := hide (HU3.out rfl)
          clear HU1 HU2 HU3
          have t1 : ((c : Int) != (c : Int)) = false := by simp
          go_wp2_with fail
          go_quiet (fail)
          go_wp2_with fail
          go_roundg k
          case measure => omega
          case rel => exact ⟨_, by go_num, by omega, HV, rfl⟩
        · have t1 : ((c : Int) != (d : Int)) = true := by simp; omega
          have t1' : ((c : Int) == (d : Int)) = false := by simp; omega
          have t2 : decide ((c : Int) < (d : Int)) = false := by simp; omega
          have t2' : decide (c < d) = false := by simp; omega
          have HV := hide (HU2.out h)
          clear HU1 HU2 HU3 h
          go_wp2_with fail
          go_quiet (fail)
          go_wp2_with fail
          go_quiet (fail)
          go_wp2_with fail
          go_ret
          exact ⟨by rw [← HR.out, HV.out]; rfl, drew3⟩
  · have e0 : ((x.length : Int) != (y.length : Int)) = true := by simp; omega
    have e0' : ((x.length : Int) == (y.length : Int)) = false := by simp; omega
    rcases Nat.lt_or_gt_of_ne hl with h | h
    · have hlt : (x.length : Int) < (y.length : Int) := by omega
      have HV : Hid (ordZ (val 10 x) (val 10 y) = -1) := hide (by have := cx.lt_of_len cy h; unfold ordZ; rw [if_pos (by omega)])
      clear hl h
      go_enter Tryd.func68, Tryd.ntmps68
      go_wp2_with fail
      go_ret
      exact ⟨by rw [← HR.out, HV.out]; rfl, 0, rfl⟩
    · have hlt : ¬ (x.length : Int) < (y.length : Int) := by omega
      have HV : Hid (ordZ (val 10 x) (val 10 y) = 1) := hide (by have := cy.lt_of_len cx h; unfold ordZ; rw [if_neg (by omega), if_pos (by omega)])
      clear hl h
      go_enter Tryd.func68, Tryd.ntmps68
      go_wp2_with fail
      go_ret
      exact ⟨by rw [← HR.out, HV.out]; rfl, 0, rfl⟩

theorem own_fresh {w : World} {base : Nat} {e : TypeId} {size : Nat} {a : Option Addr} {l c n : Nat} {xs : List Value} (h : w.ownsRow base e size (.slice a l c) n xs) : ∀ ad, a = some ad → base ≤ ad.block := by
  intro ad had
  subst had
  rcases h.2 with ⟨hv, _⟩ | ⟨g, _, _, hv, hg, _⟩
  · cases hv
  · injection hv with h1
    injection h1 with h1
    rw [h1]
    exact hg
theorem own_empty (w : World) : OwnE (w.alloc (.cells #[] 3)) w.heap.size (.slice (some ⟨w.heap.size, 0, none⟩) 0 0) [] :=
  World.ownsRow_made w #[] 0 (Nat.le_refl _) (by decide) rfl

/-- One step of a sum by hand, to any base. -/
theorem sum_stepb {b A B V c d e P q r : Nat} (h : A + B = V + P * c) (hq : c + d + e = b * q + r) : (A + P * d) + (B + P * e) = (V + P * r) + (P * b) * q := by
  have h1 : P * (c + d + e) = P * (b * q + r) := by rw [hq]
  rw [Nat.mul_add, Nat.mul_add, Nat.mul_add, ← Nat.mul_assoc] at h1
  omega
structure AddSt (w : World) (base : Nat) (x y : List Nat) (j : Nat) (v : Value) (ds : List Nat) (c : Nat) (wr : World) : Prop where
  own : OwnE wr base v ds
  len : ds.length = j
  digs : Digs 10 ds
  sum : val 10 (x.take j) + val 10 (y.take j) = val 10 ds + 10 ^ j * c
  car : c ≤ 1
  bel : Below base w wr
  le : base ≤ wr.heap.size
theorem AddSt.next {w wr w' : World} {base j c : Nat} {x y ds : List Nat} {v v' : Value} (s : AddSt w base x y j v ds c wr) (d e q r : Nat) (hd : val 10 (x.take (j + 1)) = val 10 (x.take j) + 10 ^ j * d) (he : val 10 (y.take (j + 1)) = val 10 (y.take j) + 10 ^ j * e) (hq : c + d + e = 10 * q + r) (hr : r < 10) (hq1 : q ≤ 1)
    (ho : OwnE w' base v' (ds ++ [r])) (hb : Below base wr w') : AddSt w base x y (j + 1) v' (ds ++ [r]) q w' := by
  refine ⟨ho, by simp [s.len], s.digs.snoc hr, ?_, hq1, s.bel.trans hb, Nat.le_trans s.le hb.size⟩
  rw [hd, he, val_snoc, s.len, Nat.pow_succ]
  exact sum_stepb s.sum hq

set_option maxRecDepth 100000 in
set_option maxHeartbeats 1600000 in
theorem radd_any (p q : Option Addr) (cp cq : Nat) (X Y : List Nat) (w : World) (hX : Dg .i64 w p X) (hY : Dg .i64 w q Y) (dX : Digs 10 X) (dY : Digs 10 Y) (hn : X.length ≤ 1099511627776) (hm : Y.length ≤ 1099511627776) :
    Calls Tryd.prog 71 #[.slice p X.length cp, .slice q Y.length cq] w (DecPost w (val 10 X + val 10 Y) (max X.length Y.length + 1)) := by
  generalize hP : DecPost w (val 10 X + val 10 Y) (max X.length Y.length + 1) = Post
  have HP := hide hP
  clear hP
  obtain ⟨mx, hmx⟩ : ∃ mx, mx = max X.length Y.length := ⟨_, rfl⟩
  have hx1 : X.length ≤ mx := by omega
  have hy1 : Y.length ≤ mx := by omega
  have hmx2 : mx ≤ 1099511627776 := by omega
  have HMX := hide hmx
  clear hmx
  obtain ⟨W, hW⟩ : ∃ W, w.alloc (.cells #[] 3) = W := ⟨_, rfl⟩
  have s0 : AddSt w w.heap.size X Y 0 (.slice (some ⟨w.heap.size, 0, none⟩) 0 0) [] 0 W := by
    rw [← hW]
    exact ⟨own_empty w, rfl, Digs.nil _, by simp [val], by omega, (Below.refl _ _).alloc (Nat.le_refl _) _, by simp⟩
  go_enter Tryd.func71, Tryd.ntmps71
  go_wp2_with fail
  go_loopg [5, 6, 7] (mx + 1) (fun k v c i wr => ∃ (j : Nat) (ds : List Nat) (cc : Nat), j + k = mx + 1 ∧ (k = 0 → cc = 0) ∧ i = .int .i64 (j : Int) ∧ c = .int .i64 (cc : Int) ∧ AddSt w w.heap.size X Y j v ds cc wr)
  case atStart => exact ⟨0, [], 0, by omega, fun _ => rfl, rfl, rfl, s0⟩
  case round =>
    obtain ⟨j, ds, cc, hjr, hk0, rfl, rfl, s⟩ := hrel
    have HJ := hide hjr
    have hcar := s.car
    have hlen := s.len
    have hjle : j ≤ mx + 1 := by omega
    have hk1 : j = mx + 1 → cc = 0 := fun h => hk0 (by omega)
    have HK := hide hk1
    clear hjr s0 hk0 hk1 hW
    rcases Nat.lt_or_ge j X.length with hj | hj
    · rcases Nat.lt_or_ge j Y.length with hk | hk
      · obtain ⟨b1, o1, rfl, hc1, hl1⟩ := hX.at hj
        replace hc1 := (s.bel.cell (p := ⟨b1, o1 + j, none⟩) hl1).trans hc1
        have hdB := dX.at hj
        have HD := hide (tval_take_succ (ds := X) hj)
        have tx : decide (j < X.length) = true := decide_eq_true hj
        obtain ⟨b2, o2, rfl, hc2, hl2⟩ := hY.at hk
        replace hc2 := (s.bel.cell (p := ⟨b2, o2 + j, none⟩) hl2).trans hc2
        have heB := dY.at hk
        have HE := hide (tval_take_succ (ds := Y) hk)
        have ty : decide (j < Y.length) = true := decide_eq_true hk
        have HN := hide (fun (w' : World) (v' : Value) (q r : Nat) => AddSt.next (w' := w') (v' := v') s X[j] Y[j] q r HD.out HE.out)
        clear HD HE
        generalize X[j] = d at hc1 hdB HN
        generalize Y[j] = e at hc2 heB HN
        have hjm : j ≤ mx := by omega
        obtain ⟨r, hr⟩ : ∃ r : Nat, r = (cc + d + e) % 10 := ⟨_, rfl⟩
        obtain ⟨q, hq⟩ : ∃ q : Nat, q = (cc + d + e) / 10 := ⟨_, rfl⟩
        have hr1 : ((cc : Int) + (d : Int) + (e : Int)) % 10 = (r : Int) := by omega
        have hq1 : ((cc : Int) + (d : Int) + (e : Int)) / 10 = (q : Int) := by omega
        have HF : Hid (cc + d + e = 10 * q + r ∧ r < 10 ∧ q ≤ 1 ∧ (mx ≤ j → q = 0)) := hide ⟨by omega, by omega, by omega, fun h => by omega⟩
        clear hr hq
        have ho1 := s.own.alloc (.cells #[.int .i64 (r : Int)] 3)
        have hle1 := s.le
        go_wp2_with (at_builtin; refine wpList_append_int rfl (.tmp 45) (.tmp 48) rfl w.heap.size _ ds rfl ho1 ⟨_, 0, none⟩ r rfl ?c1 ?c2 ?c3 ?_)
        case c1 => rw [add_plain]; exact (Blk.new _ _ _).cell 0
        case c2 => omega
        case c3 => simp; omega
        intro v' w2 ho2 hb2
        have hb3 : Below w.heap.size wr w2 := ((Below.refl _ _).alloc hle1 _).trans hb2
        have s2 := HN.out w2 v' q r HF.out.1 HF.out.2.1 HF.out.2.2.1 ho2 hb3
        have HQ := hide HF.out.2.2.2
        have HQ1 := hide hq1
        clear s ho1 ho2 hb2 hb3 HN HF hr1 hq1
        go_wp2_with fail
        have hjr := HJ.out
        have hqq := HQ.out
        go_roundg (gk - 1)
        case measure => omega
        case rel => exact ⟨j + 1, _, q, by omega, fun h => by omega, by go_num, by rw [HQ1.out], s2⟩
      · obtain ⟨b1, o1, rfl, hc1, hl1⟩ := hX.at hj
        replace hc1 := (s.bel.cell (p := ⟨b1, o1 + j, none⟩) hl1).trans hc1
        have hdB := dX.at hj
        have HD := hide (tval_take_succ (ds := X) hj)
        have tx : decide (j < X.length) = true := decide_eq_true hj
        have HE := hide (tval_take_ge (ds := Y) hk)
        have ty : decide (j < Y.length) = false := decide_eq_false (by omega)
        have HN := hide (fun (w' : World) (v' : Value) (q r : Nat) => AddSt.next (w' := w') (v' := v') s X[j] 0 q r HD.out HE.out)
        clear HD HE
        generalize X[j] = d at hc1 hdB HN
        have hjm : j ≤ mx := by omega
        obtain ⟨r, hr⟩ : ∃ r : Nat, r = (cc + d) % 10 := ⟨_, rfl⟩
        obtain ⟨q, hq⟩ : ∃ q : Nat, q = (cc + d) / 10 := ⟨_, rfl⟩
        have hr1 : ((cc : Int) + (d : Int)) % 10 = (r : Int) := by omega
        have hq1 : ((cc : Int) + (d : Int)) / 10 = (q : Int) := by omega
        have HF : Hid (cc + d + 0 = 10 * q + r ∧ r < 10 ∧ q ≤ 1 ∧ (mx ≤ j → q = 0)) := hide ⟨by omega, by omega, by omega, fun h => by omega⟩
        clear hr hq
        have ho1 := s.own.alloc (.cells #[.int .i64 (r : Int)] 3)
        have hle1 := s.le
        go_wp2_with (at_builtin; refine wpList_append_int rfl (.tmp 45) (.tmp 48) rfl w.heap.size _ ds rfl ho1 ⟨_, 0, none⟩ r rfl ?c1 ?c2 ?c3 ?_)
        case c1 => rw [add_plain]; exact (Blk.new _ _ _).cell 0
        case c2 => omega
        case c3 => simp; omega
        intro v' w2 ho2 hb2
        have hb3 : Below w.heap.size wr w2 := ((Below.refl _ _).alloc hle1 _).trans hb2
        have s2 := HN.out w2 v' q r HF.out.1 HF.out.2.1 HF.out.2.2.1 ho2 hb3
        have HQ := hide HF.out.2.2.2
        have HQ1 := hide hq1
        clear s ho1 ho2 hb2 hb3 HN HF hr1 hq1
        go_wp2_with fail
        have hjr := HJ.out
        have hqq := HQ.out
        go_roundg (gk - 1)
        case measure => omega
        case rel => exact ⟨j + 1, _, q, by omega, fun h => by omega, by go_num, by rw [HQ1.out], s2⟩
    · rcases Nat.lt_or_ge j Y.length with hk | hk
      · have HD := hide (tval_take_ge (ds := X) hj)
        have tx : decide (j < X.length) = false := decide_eq_false (by omega)
        obtain ⟨b2, o2, rfl, hc2, hl2⟩ := hY.at hk
        replace hc2 := (s.bel.cell (p := ⟨b2, o2 + j, none⟩) hl2).trans hc2
        have heB := dY.at hk
        have HE := hide (tval_take_succ (ds := Y) hk)
        have ty : decide (j < Y.length) = true := decide_eq_true hk
        have HN := hide (fun (w' : World) (v' : Value) (q r : Nat) => AddSt.next (w' := w') (v' := v') s 0 Y[j] q r HD.out HE.out)
        clear HD HE
        generalize Y[j] = e at hc2 heB HN
        have hjm : j ≤ mx := by omega
        obtain ⟨r, hr⟩ : ∃ r : Nat, r = (cc + e) % 10 := ⟨_, rfl⟩
        obtain ⟨q, hq⟩ : ∃ q : Nat, q = (cc + e) / 10 := ⟨_, rfl⟩
        have hr1 : ((cc : Int) + (e : Int)) % 10 = (r : Int) := by omega
        have hq1 : ((cc : Int) + (e : Int)) / 10 = (q : Int) := by omega
        have HF : Hid (cc + 0 + e = 10 * q + r ∧ r < 10 ∧ q ≤ 1 ∧ (mx ≤ j → q = 0)) := hide ⟨by omega, by omega, by omega, fun h => by omega⟩
        clear hr hq
        have ho1 := s.own.alloc (.cells #[.int .i64 (r : Int)] 3)
        have hle1 := s.le
        go_wp2_with (at_builtin; refine wpList_append_int rfl (.tmp 45) (.tmp 48) rfl w.heap.size _ ds rfl ho1 ⟨_, 0, none⟩ r rfl ?c1 ?c2 ?c3 ?_)
        case c1 => rw [add_plain]; exact (Blk.new _ _ _).cell 0
        case c2 => omega
        case c3 => simp; omega
        intro v' w2 ho2 hb2
        have hb3 : Below w.heap.size wr w2 := ((Below.refl _ _).alloc hle1 _).trans hb2
        have s2 := HN.out w2 v' q r HF.out.1 HF.out.2.1 HF.out.2.2.1 ho2 hb3
        have HQ := hide HF.out.2.2.2
        have HQ1 := hide hq1
        clear s ho1 ho2 hb2 hb3 HN HF hr1 hq1
        go_wp2_with fail
        have hjr := HJ.out
        have hqq := HQ.out
        go_roundg (gk - 1)
        case measure => omega
        case rel => exact ⟨j + 1, _, q, by omega, fun h => by omega, by go_num, by rw [HQ1.out], s2⟩
      · rcases Nat.eq_zero_or_pos cc with hc0 | hc0
        · have tc : decide ((0 : Int) < (cc : Int)) = false := decide_eq_false (by omega)
          have tc2 : decide (0 < cc) = false := decide_eq_false (by omega)
          have tx : decide (j < X.length) = false := decide_eq_false (by omega)
          have ty : decide (j < Y.length) = false := decide_eq_false (by omega)
          obtain ⟨ra, rc, rfl⟩ := own_slice s.own
          obtain ⟨hD2, hc2⟩ := own_dg s.own
          go_wp2_with fail
          rw [← HP.out]
          have hjr := HJ.out
          refine ⟨ra, rc, ds, by rw [hlen]; rfl, hc2, hD2, s.digs, ?_, ?_, s.bel⟩
          · have := s.sum
            rw [List.take_of_length_le hj, List.take_of_length_le hk, hc0, Nat.mul_zero] at this
            omega
          · rw [hlen, ← HMX.out]; omega
        · have HD := hide (tval_take_ge (ds := X) hj)
          have tx : decide (j < X.length) = false := decide_eq_false (by omega)
          have HE := hide (tval_take_ge (ds := Y) hk)
          have ty : decide (j < Y.length) = false := decide_eq_false (by omega)
          have HN := hide (fun (w' : World) (v' : Value) (q r : Nat) => AddSt.next (w' := w') (v' := v') s 0 0 q r HD.out HE.out)
          clear HD HE
          have hjm : j ≤ mx := by
            rcases Nat.lt_or_ge mx j with h | h
            · have := HK.out (by omega); omega
            · exact h
          have tc : decide ((0 : Int) < (cc : Int)) = true := decide_eq_true (by omega)
          have tc2 : decide (0 < cc) = true := decide_eq_true (by omega)
          obtain ⟨r, hr⟩ : ∃ r : Nat, r = (cc) % 10 := ⟨_, rfl⟩
          obtain ⟨q, hq⟩ : ∃ q : Nat, q = (cc) / 10 := ⟨_, rfl⟩
          have hr1 : ((cc : Int)) % 10 = (r : Int) := by omega
          have hq1 : ((cc : Int)) / 10 = (q : Int) := by omega
          have HF : Hid (cc + 0 + 0 = 10 * q + r ∧ r < 10 ∧ q ≤ 1 ∧ (mx ≤ j → q = 0)) := hide ⟨by omega, by omega, by omega, fun h => by omega⟩
          clear hr hq
          have ho1 := s.own.alloc (.cells #[.int .i64 (r : Int)] 3)
          have hle1 := s.le
          go_wp2_with (at_builtin; refine wpList_append_int rfl (.tmp 45) (.tmp 48) rfl w.heap.size _ ds rfl ho1 ⟨_, 0, none⟩ r rfl ?c1 ?c2 ?c3 ?_)
          case c1 => rw [add_plain]; exact (Blk.new _ _ _).cell 0
          case c2 => omega
          case c3 => simp; omega
          intro v' w2 ho2 hb2
          have hb3 : Below w.heap.size wr w2 := ((Below.refl _ _).alloc hle1 _).trans hb2
          have s2 := HN.out w2 v' q r HF.out.1 HF.out.2.1 HF.out.2.2.1 ho2 hb3
          have HQ := hide HF.out.2.2.2
          have HQ1 := hide hq1
          clear s ho1 ho2 hb2 hb3 HN HF hr1 hq1
          go_wp2_with fail
          have hjr := HJ.out
          have hqq := HQ.out
          go_roundg (gk - 1)
          case measure => omega
          case rel => exact ⟨j + 1, _, q, by omega, fun h => by omega, by go_num, by rw [HQ1.out], s2⟩

structure SubSt (w : World) (base : Nat) (x y : List Nat) (j : Nat) (v : Value) (ds : List Nat) (c : Nat) (wr : World) : Prop where
  own : OwnE wr base v ds
  len : ds.length = j
  digs : Digs 10 ds
  sum : val 10 (x.take j) + 10 ^ j * c = val 10 ds + val 10 (y.take j)
  car : c ≤ 1
  bel : Below base w wr
  le : base ≤ wr.heap.size
theorem diff_stepb {b A B V c d e P q r : Nat} (h : A + P * c = V + B) (hq : d + b * q = r + c + e) : (A + P * d) + (P * b) * q = (V + P * r) + (B + P * e) := by
  have h1 : P * (d + b * q) = P * (r + c + e) := by rw [hq]
  rw [Nat.mul_add, Nat.mul_add, Nat.mul_add, ← Nat.mul_assoc] at h1
  omega
theorem SubSt.next {w wr w' : World} {base j c : Nat} {x y ds : List Nat} {v v' : Value} (s : SubSt w base x y j v ds c wr) (d e q r : Nat) (hd : val 10 (x.take (j + 1)) = val 10 (x.take j) + 10 ^ j * d) (he : val 10 (y.take (j + 1)) = val 10 (y.take j) + 10 ^ j * e) (hq : d + 10 * q = r + c + e) (hr : r < 10) (hq1 : q ≤ 1)
    (ho : OwnE w' base v' (ds ++ [r])) (hb : Below base wr w') : SubSt w base x y (j + 1) v' (ds ++ [r]) q w' := by
  refine ⟨ho, by simp [s.len], s.digs.snoc hr, ?_, hq1, s.bel.trans hb, Nat.le_trans s.le hb.size⟩
  rw [hd, he, val_snoc, s.len, Nat.pow_succ]
  exact diff_stepb s.sum hq
/-- What a function leaves that computes the decimal digits of n, without noughts at the end. -/
def CanPost (w : World) (n : Nat) (e : Ending) (w' : World) : Prop :=
  ∃ a cap, e = .returned (.slice a (dg 10 n).length cap) ∧ Fit a (dg 10 n).length cap ∧ Dg .i64 w' a (dg 10 n) ∧ (∀ ad, a = some ad → w.heap.size ≤ ad.block) ∧ Below w.heap.size w w'

set_option maxRecDepth 100000 in
set_option maxHeartbeats 1600000 in
theorem rsub_any (p q : Option Addr) (cp cq : Nat) (X Y : List Nat) (w : World) (hX : Dg .i64 w p X) (hY : Dg .i64 w q Y) (dX : Digs 10 X) (dY : Digs 10 Y) (hn : X.length ≤ 1099511627776) (hle : Y.length ≤ X.length) (hv : val 10 Y ≤ val 10 X) :
    Calls Tryd.prog 69 #[.slice p X.length cp, .slice q Y.length cq] w (CanPost w (val 10 X - val 10 Y)) := by
  generalize hP : CanPost w (val 10 X - val 10 Y) = Post
  have HP := hide hP
  have HV := hide hv
  clear hP hv
  obtain ⟨W, hW⟩ : ∃ W, w.alloc (.cells #[] 3) = W := ⟨_, rfl⟩
  have s0 : SubSt w w.heap.size X Y 0 (.slice (some ⟨w.heap.size, 0, none⟩) 0 0) [] 0 W := by
    rw [← hW]
    exact ⟨own_empty w, rfl, Digs.nil _, by simp [val], by omega, (Below.refl _ _).alloc (Nat.le_refl _) _, by simp⟩
  go_enter Tryd.func69, Tryd.ntmps69
  go_wp2_with fail
  go_loopg [5, 6, 7] X.length (fun k v c i wr => ∃ (j : Nat) (ds : List Nat) (cc : Nat), j + k = X.length ∧ i = .int .i64 (j : Int) ∧ c = .int .i64 (cc : Int) ∧ SubSt w w.heap.size X Y j v ds cc wr)
  case atStart => exact ⟨0, [], 0, by omega, rfl, rfl, s0⟩
  case round =>
    obtain ⟨j, ds, cc, hjr, rfl, rfl, s⟩ := hrel
    have HJ := hide hjr
    clear hjr s0 hW
    have hcar := s.car
    have hlen := s.len
    rcases Nat.lt_or_ge j X.length with hj | hj
    · obtain ⟨b1, o1, rfl, hc1, hl1⟩ := hX.at hj
      replace hc1 := (s.bel.cell (p := ⟨b1, o1 + j, none⟩) hl1).trans hc1
      have hdB := dX.at hj
      have HD := hide (tval_take_succ (ds := X) hj)
      have tx : decide (j < X.length) = true := decide_eq_true hj
      rcases Nat.lt_or_ge j Y.length with hk | hk
      · obtain ⟨b2, o2, rfl, hc2, hl2⟩ := hY.at hk
        replace hc2 := (s.bel.cell (p := ⟨b2, o2 + j, none⟩) hl2).trans hc2
        have heB := dY.at hk
        have HE := hide (tval_take_succ (ds := Y) hk)
        have ty : decide (j < Y.length) = true := decide_eq_true hk
        have HN := hide (fun (w' : World) (v' : Value) (q r : Nat) => SubSt.next (w' := w') (v' := v') s X[j] Y[j] q r HD.out HE.out)
        generalize X[j] = d at hc1 hdB HN HD
        generalize Y[j] = e at hc2 heB HN HE
        clear HD HE
        by_cases hneg : (d : Int) - (cc : Int) - (e : Int) < 0
        · obtain ⟨r, hr⟩ : ∃ r : Nat, (d : Int) - (cc : Int) - (e : Int) + 10 = (r : Int) := ⟨((d : Int) - (cc : Int) - (e : Int) + 10).toNat, by omega⟩
          have HF : Hid (d + 10 * 1 = r + cc + e ∧ r < 10 ∧ 1 ≤ 1) := hide (by omega)
          have hr9 : r < 10 := by omega
          have ho1 := s.own.alloc (.cells #[.int .i64 (r : Int)] 3)
          have hle1 := s.le
          go_wp2_with (at_builtin; refine wpList_append_int rfl (.tmp 36) (.tmp 38) rfl w.heap.size _ ds rfl ho1 ⟨_, 0, none⟩ r rfl ?c1 ?c2 ?c3 ?_)
          case c1 => rw [add_plain]; exact (Blk.new _ _ _).cell 0
          case c2 => omega
          case c3 => simp; omega
          intro v' w2 ho2 hb2
          have hb3 : Below w.heap.size wr w2 := ((Below.refl _ _).alloc hle1 _).trans hb2
          have s2 := HN.out w2 v' 1 r HF.out.1 HF.out.2.1 HF.out.2.2 ho2 hb3
          clear s ho1 ho2 hb2 hb3 HN HF hr
          go_wp2_with fail
          have hjr := HJ.out
          go_roundg (gk - 1)
          case measure => omega
          case rel => exact ⟨j + 1, _, 1, by omega, by go_num, rfl, s2⟩
        · obtain ⟨r, hr⟩ : ∃ r : Nat, (d : Int) - (cc : Int) - (e : Int) = (r : Int) := ⟨((d : Int) - (cc : Int) - (e : Int)).toNat, by omega⟩
          clear hneg
          have HF : Hid (d + 10 * 0 = r + cc + e ∧ r < 10 ∧ 0 ≤ 1) := hide (by omega)
          have hr9 : r < 10 := by omega
          have ho1 := s.own.alloc (.cells #[.int .i64 (r : Int)] 3)
          have hle1 := s.le
          go_wp2_with (at_builtin; refine wpList_append_int rfl (.tmp 36) (.tmp 38) rfl w.heap.size _ ds rfl ho1 ⟨_, 0, none⟩ r rfl ?c1 ?c2 ?c3 ?_)
          case c1 => rw [add_plain]; exact (Blk.new _ _ _).cell 0
          case c2 => omega
          case c3 => simp; omega
          intro v' w2 ho2 hb2
          have hb3 : Below w.heap.size wr w2 := ((Below.refl _ _).alloc hle1 _).trans hb2
          have s2 := HN.out w2 v' 0 r HF.out.1 HF.out.2.1 HF.out.2.2 ho2 hb3
          clear s ho1 ho2 hb2 hb3 HN HF hr
          go_wp2_with fail
          have hjr := HJ.out
          go_roundg (gk - 1)
          case measure => omega
          case rel => exact ⟨j + 1, _, 0, by omega, by go_num, rfl, s2⟩
      · have HE := hide (tval_take_ge (ds := Y) hk)
        have ty : decide (j < Y.length) = false := decide_eq_false (by omega)
        have HN := hide (fun (w' : World) (v' : Value) (q r : Nat) => SubSt.next (w' := w') (v' := v') s X[j] 0 q r HD.out HE.out)
        generalize X[j] = d at hc1 hdB HN HD
        clear HD HE
        by_cases hneg : (d : Int) - (cc : Int) < 0
        · obtain ⟨r, hr⟩ : ∃ r : Nat, (d : Int) - (cc : Int) + 10 = (r : Int) := ⟨((d : Int) - (cc : Int) + 10).toNat, by omega⟩
          have HF : Hid (d + 10 * 1 = r + cc + 0 ∧ r < 10 ∧ 1 ≤ 1) := hide (by omega)
          have hr9 : r < 10 := by omega
          have ho1 := s.own.alloc (.cells #[.int .i64 (r : Int)] 3)
          have hle1 := s.le
          go_wp2_with (at_builtin; refine wpList_append_int rfl (.tmp 36) (.tmp 38) rfl w.heap.size _ ds rfl ho1 ⟨_, 0, none⟩ r rfl ?c1 ?c2 ?c3 ?_)
          case c1 => rw [add_plain]; exact (Blk.new _ _ _).cell 0
          case c2 => omega
          case c3 => simp; omega
          intro v' w2 ho2 hb2
          have hb3 : Below w.heap.size wr w2 := ((Below.refl _ _).alloc hle1 _).trans hb2
          have s2 := HN.out w2 v' 1 r HF.out.1 HF.out.2.1 HF.out.2.2 ho2 hb3
          clear s ho1 ho2 hb2 hb3 HN HF hr
          go_wp2_with fail
          have hjr := HJ.out
          go_roundg (gk - 1)
          case measure => omega
          case rel => exact ⟨j + 1, _, 1, by omega, by go_num, rfl, s2⟩
        · obtain ⟨r, hr⟩ : ∃ r : Nat, (d : Int) - (cc : Int) = (r : Int) := ⟨((d : Int) - (cc : Int)).toNat, by omega⟩
          clear hneg
          have HF : Hid (d + 10 * 0 = r + cc + 0 ∧ r < 10 ∧ 0 ≤ 1) := hide (by omega)
          have hr9 : r < 10 := by omega
          have ho1 := s.own.alloc (.cells #[.int .i64 (r : Int)] 3)
          have hle1 := s.le
          go_wp2_with (at_builtin; refine wpList_append_int rfl (.tmp 36) (.tmp 38) rfl w.heap.size _ ds rfl ho1 ⟨_, 0, none⟩ r rfl ?c1 ?c2 ?c3 ?_)
          case c1 => rw [add_plain]; exact (Blk.new _ _ _).cell 0
          case c2 => omega
          case c3 => simp; omega
          intro v' w2 ho2 hb2
          have hb3 : Below w.heap.size wr w2 := ((Below.refl _ _).alloc hle1 _).trans hb2
          have s2 := HN.out w2 v' 0 r HF.out.1 HF.out.2.1 HF.out.2.2 ho2 hb3
          clear s ho1 ho2 hb2 hb3 HN HF hr
          go_wp2_with fail
          have hjr := HJ.out
          go_roundg (gk - 1)
          case measure => omega
          case rel => exact ⟨j + 1, _, 0, by omega, by go_num, rfl, s2⟩
    · have tx : decide (j < X.length) = false := decide_eq_false (by omega)
      obtain ⟨ra, rc, rfl⟩ := own_slice s.own
      obtain ⟨hD2, hc2⟩ := own_dg s.own
      have hfr := own_fresh s.own
      have hdl : ds.length ≤ 2199023255552 := by have := HJ.out; omega
      have hval : val 10 ds = val 10 X - val 10 Y := by
        have h1 := s.sum
        have h2 := val_lt s.digs
        rw [List.take_of_length_le hj, List.take_of_length_le (by omega)] at h1
        rw [hlen] at h2
        have h3 := HV.out
        rcases Nat.eq_zero_or_pos cc with h0 | h0
        · rw [h0] at h1; omega
        · obtain rfl : cc = 1 := by omega
          omega
      have HT : Hid (trim ds = dg 10 (val 10 X - val 10 Y)) := hide (by rw [trim_dg T2 s.digs, hval])
      have hb2 := s.bel
      clear hval s
      subst hlen
      go_wp2_with fail
      refine (rcut_any ra rc ds wr hD2 hc2 hdl).mono ?_
      rintro e w2 ⟨rfl, rfl⟩
      go_wp2_with fail
      rw [← HP.out, HT.out]
      have h1 := hD2.trim
      have h2 := hc2.trim
      rw [HT.out] at h1 h2
      exact ⟨ra, rc, rfl, h2, h1, hfr, hb2⟩
end Go.Proofs.YthpibilefdmemaaDoor
