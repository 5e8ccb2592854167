/- whole.minus, copied: by their contracts. -/
import Derived.Test.YthpibilefdmemaaDoorPlus
namespace Go.Proofs.YthpibilefdmemaaDoor
open Go.RowKit

/-- One step of a difference by hand. -/
theorem diff_step {A B V c d e P q r : Nat} (h : A + P * c = V + B) (hq : d + BB * q = r + c + e) : (A + P * d) + (P * BB) * q = (V + P * r) + (B + P * e) := by
  have h1 : P * (d + BB * q) = P * (r + c + e) := by rw [hq]
  rw [Nat.mul_add, Nat.mul_add, Nat.mul_add, ← Nat.mul_assoc] at h1
  omega

structure MinusSt (w : World) (base : Nat) (x y : List Nat) (j : Nat) (v : Value) (ds : List Nat) (c : Nat) (wr : World) : Prop where
  own : OwnD wr base v ds
  len : ds.length = j
  digs : Digs BB ds
  sum : val BB (x.take j) + BB ^ j * c = val BB ds + val BB (y.take j)
  car : c ≤ 1
  bel : Below base w wr
  le : base ≤ wr.heap.size

theorem MinusSt.next {w wr w' : World} {base j c : Nat} {x y ds : List Nat} {v v' : Value} (s : MinusSt w base x y j v ds c wr) (e q r : Nat) (hj : j < x.length) (he : val BB (y.take (j + 1)) = val BB (y.take j) + BB ^ j * e) (hq : x[j] + BB * q = r + c + e) (hr : r < BB) (hq1 : q ≤ 1)
    (ho : OwnD w' base v' (ds ++ [r])) (hb : Below base wr w') : MinusSt w base x y (j + 1) v' (ds ++ [r]) q w' := by
  refine ⟨ho, by simp [s.len], s.digs.snoc hr, ?_, hq1, s.bel.trans hb, Nat.le_trans s.le hb.size⟩
  rw [val_take_succ hj, he, val_snoc, s.len, Nat.pow_succ]
  exact diff_step s.sum hq

set_option maxRecDepth 100000 in
set_option maxHeartbeats 1600000 in
theorem minus_any (p q : Option Addr) (cp cq : Nat) (X Y : List Nat) (w : World) (hX : Dg .u32 w p X) (hY : Dg .u32 w q Y) (dX : Digs BB X) (dY : Digs BB Y) (hXn : X.length ≤ 1099511627776) (hle : Y.length ≤ X.length) (hv : val BB Y ≤ val BB X) :
    Calls Tryd.prog 66 #[.slice p X.length cp, .slice q Y.length cq] w (DigPost w (val BB X - val BB Y) X.length) := by
  generalize hP : DigPost w (val BB X - val BB Y) X.length = Post
  have HP := hide hP
  have HV := hide hv
  clear hP hv
  go_enter Tryd.func66, Tryd.ntmps66
  go_wp2_with (at_make; refine wpList_make_dig rfl _ _ rfl _ X.length rfl rfl rfl (by omega) ?_)
  intro w1 v1 ho1 hb1
  have s0 : MinusSt w w.heap.size X Y 0 v1 [] 0 w1 := ⟨ho1, rfl, Digs.nil _, by simp [val], by omega, hb1, hb1.size⟩
  go_wp2_with fail
  go_loopg [5, 6, 15] X.length (fun r v c i wr => ∃ (j : Nat) (ds : List Nat) (cc : Nat), j + r = X.length ∧ i = .int .i64 (j : Int) ∧ c = .int .i64 (cc : Int) ∧ MinusSt w w.heap.size X Y j v ds cc wr)
  case atStart => exact ⟨0, [], 0, by omega, rfl, rfl, s0⟩
  case round =>
    obtain ⟨j, ds, cc, hjr, rfl, rfl, s⟩ := hrel
    have HJ := hide hjr
    clear hjr s0 ho1 hb1
    have hcar := s.car
    have hlen := s.len
    rcases Nat.lt_or_ge j X.length with hj | hj
    · obtain ⟨b1, o1, rfl, hc1, hl1⟩ := hX.at hj
      replace hc1 := (s.bel.cell (p := ⟨b1, o1 + j, none⟩) hl1).trans hc1
      have hdB := dX.at hj
      have hBB := BB_eq
      rcases Nat.lt_or_ge j Y.length with hk | hk
      · obtain ⟨b2, o2, rfl, hc2, hl2⟩ := hY.at hk
        replace hc2 := (s.bel.cell (p := ⟨b2, o2 + j, none⟩) hl2).trans hc2
        have heB := dY.at hk
        have HE := hide (val_take_succ (ds := Y) hk)
        have HN := hide (fun (w' : World) (v' : Value) (q r : Nat) => MinusSt.next (w' := w') (v' := v') s Y[j] q r hj HE.out)
        generalize X[j] = d at hc1 hdB HN
        generalize Y[j] = e at hc2 heB HN HE
        have hd9 : d < 1000000000 := by omega
        have he9 : e < 1000000000 := by omega
        clear hBB hdB heB HE
        by_cases hneg : (d : Int) - (cc : Int) - (e : Int) < 0
        · obtain ⟨r, hr⟩ : ∃ r : Nat, (d : Int) - (cc : Int) - (e : Int) + 1000000000 = (r : Int) := ⟨((d : Int) - (cc : Int) - (e : Int) + 1000000000).toNat, by omega⟩
          have HF : Hid (d + BB * 1 = r + cc + e ∧ r < BB ∧ 1 ≤ 1) := hide (by rw [BB_eq]; omega)
          have hr9 : r < 1000000000 := by omega
          have ho1 := s.own.alloc (.cells #[.int .u32 (r : Int)] 81)
          have hle1 := s.le
          go_wp2_with (at_builtin; refine wpList_append_dig rfl (.tmp 39) (.tmp 42) rfl w.heap.size _ ds rfl ho1 ⟨_, 0, none⟩ r rfl ?c1 ?c2 ?c3 ?_)
          case c1 => rw [add_plain]; exact (Blk.new _ _ _).cell 0
          case c2 => omega
          case c3 => simp; omega
          intro v' w2 ho2 hb2
          have hb3 : Below w.heap.size wr w2 := ((Below.refl _ _).alloc hle1 _).trans hb2
          have s2 := HN.out w2 v' 1 r HF.out.1 HF.out.2.1 HF.out.2.2 ho2 hb3
          clear s ho1 ho2 hb2 hb3 HN HF
          go_wp2_with fail
          have hjr := HJ.out
          go_roundg (gk - 1)
          case measure => omega
          case rel => exact ⟨j + 1, _, 1, by omega, by go_num, rfl, s2⟩
        · obtain ⟨r, hr⟩ : ∃ r : Nat, (d : Int) - (cc : Int) - (e : Int) = (r : Int) := ⟨((d : Int) - (cc : Int) - (e : Int)).toNat, by omega⟩
          clear hneg
          have HF : Hid (d + BB * 0 = r + cc + e ∧ r < BB ∧ 0 ≤ 1) := hide (by rw [BB_eq]; omega)
          have hr9 : r < 1000000000 := by omega
          have ho1 := s.own.alloc (.cells #[.int .u32 (r : Int)] 81)
          have hle1 := s.le
          go_wp2_with (at_builtin; refine wpList_append_dig rfl (.tmp 39) (.tmp 42) rfl w.heap.size _ ds rfl ho1 ⟨_, 0, none⟩ r rfl ?c1 ?c2 ?c3 ?_)
          case c1 => rw [add_plain]; exact (Blk.new _ _ _).cell 0
          case c2 => omega
          case c3 => simp; omega
          intro v' w2 ho2 hb2
          have hb3 : Below w.heap.size wr w2 := ((Below.refl _ _).alloc hle1 _).trans hb2
          have s2 := HN.out w2 v' 0 r HF.out.1 HF.out.2.1 HF.out.2.2 ho2 hb3
          clear s ho1 ho2 hb2 hb3 HN HF
          go_wp2_with fail
          have hjr := HJ.out
          go_roundg (gk - 1)
          case measure => omega
          case rel => exact ⟨j + 1, _, 0, by omega, by go_num, rfl, s2⟩
      · have HE : Hid (val BB (Y.take (j + 1)) = val BB (Y.take j) + BB ^ j * 0) := hide (by rw [val_take_ge hk]; simp)
        have HN := hide (fun (w' : World) (v' : Value) (q r : Nat) => MinusSt.next (w' := w') (v' := v') s 0 q r hj HE.out)
        generalize X[j] = d at hc1 hdB HN
        have hd9 : d < 1000000000 := by omega
        clear hBB hdB HE
        by_cases hneg : (d : Int) - (cc : Int) < 0
        · obtain ⟨r, hr⟩ : ∃ r : Nat, (d : Int) - (cc : Int) + 1000000000 = (r : Int) := ⟨((d : Int) - (cc : Int) + 1000000000).toNat, by omega⟩
          have HF : Hid (d + BB * 1 = r + cc + 0 ∧ r < BB ∧ 1 ≤ 1) := hide (by rw [BB_eq]; omega)
          have hr9 : r < 1000000000 := by omega
          have ho1 := s.own.alloc (.cells #[.int .u32 (r : Int)] 81)
          have hle1 := s.le
          go_wp2_with (at_builtin; refine wpList_append_dig rfl (.tmp 39) (.tmp 42) rfl w.heap.size _ ds rfl ho1 ⟨_, 0, none⟩ r rfl ?c1 ?c2 ?c3 ?_)
          case c1 => rw [add_plain]; exact (Blk.new _ _ _).cell 0
          case c2 => omega
          case c3 => simp; omega
          intro v' w2 ho2 hb2
          have hb3 : Below w.heap.size wr w2 := ((Below.refl _ _).alloc hle1 _).trans hb2
          have s2 := HN.out w2 v' 1 r HF.out.1 HF.out.2.1 HF.out.2.2 ho2 hb3
          clear s ho1 ho2 hb2 hb3 HN HF
          go_wp2_with fail
          have hjr := HJ.out
          go_roundg (gk - 1)
          case measure => omega
          case rel => exact ⟨j + 1, _, 1, by omega, by go_num, rfl, s2⟩
        · obtain ⟨r, hr⟩ : ∃ r : Nat, (d : Int) - (cc : Int) = (r : Int) := ⟨((d : Int) - (cc : Int)).toNat, by omega⟩
          clear hneg
          have HF : Hid (d + BB * 0 = r + cc + 0 ∧ r < BB ∧ 0 ≤ 1) := hide (by rw [BB_eq]; omega)
          have hr9 : r < 1000000000 := by omega
          have ho1 := s.own.alloc (.cells #[.int .u32 (r : Int)] 81)
          have hle1 := s.le
          go_wp2_with (at_builtin; refine wpList_append_dig rfl (.tmp 39) (.tmp 42) rfl w.heap.size _ ds rfl ho1 ⟨_, 0, none⟩ r rfl ?c1 ?c2 ?c3 ?_)
          case c1 => rw [add_plain]; exact (Blk.new _ _ _).cell 0
          case c2 => omega
          case c3 => simp; omega
          intro v' w2 ho2 hb2
          have hb3 : Below w.heap.size wr w2 := ((Below.refl _ _).alloc hle1 _).trans hb2
          have s2 := HN.out w2 v' 0 r HF.out.1 HF.out.2.1 HF.out.2.2 ho2 hb3
          clear s ho1 ho2 hb2 hb3 HN HF
          go_wp2_with fail
          have hjr := HJ.out
          go_roundg (gk - 1)
          case measure => omega
          case rel => exact ⟨j + 1, _, 0, by omega, by go_num, rfl, s2⟩
    · obtain ⟨ra, rc, rfl⟩ := own_slice s.own
      obtain ⟨hD2, hc2⟩ := own_dg s.own
      go_wp2_with fail
      rw [← HP.out]
      have hjr := HJ.out
      have hvv := HV.out
      have hs := s.sum
      rw [List.take_of_length_le hj, List.take_of_length_le (by omega)] at hs
      have hlt := val_lt s.digs
      rw [s.len] at hlt
      have hc0 : cc = 0 := by
        rcases Nat.eq_zero_or_pos cc with h | h
        · exact h
        · obtain rfl : cc = 1 := by omega
          omega
      subst hc0
      refine ⟨ra, rc, ds, rfl, hc2, hD2, s.digs, by omega, by rw [s.len]; omega, s.bel⟩

theorem copied_any (p : Option Addr) (cp : Nat) (X : List Nat) (w : World) (hX : Dg .u32 w p X) (hf : Fit p X.length cp) (dX : Digs BB X) (hXn : X.length ≤ 1099511627776) :
    Calls Tryd.prog 72 #[.slice p X.length cp] w (DigPost w (val BB X) X.length) := by
  generalize hP : DigPost w (val BB X) X.length = Post
  have HP := hide hP
  clear hP
  go_enter Tryd.func72, Tryd.ntmps72
  go_wp2_with (at_builtin; refine wpList_append_src rfl _ _ rfl w.heap.size _ [] rfl (OwnD.nil _ _) p cp X rfl hf hX (by simp; omega) (Nat.le_refl _) ?_)
  intro v' w' ho hb
  obtain ⟨ra, rc, rfl⟩ := own_slice ho
  obtain ⟨hD2, hc2⟩ := own_dg ho
  go_wp2_with fail
  rw [← HP.out]
  exact ⟨ra, rc, X, rfl, hc2, hD2, dX, rfl, Nat.le_refl _, hb⟩
end Go.Proofs.YthpibilefdmemaaDoor
