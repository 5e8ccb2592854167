/- whole.plus, minus, copied: by their contracts. -/
import Derived.Test.YthpibilefdmemaaDoorWhole2
import Derived.Test.YthpibilefdmemaaDoorOwn
namespace Go.Proofs.YthpibilefdmemaaDoor
open Go.RowKit

theorem val_take_succ {ds : List Nat} {j : Nat} (hj : j < ds.length) : val BB (ds.take (j + 1)) = val BB (ds.take j) + BB ^ j * ds[j] := by
  rw [List.take_succ_eq_append_getElem hj, val_snoc, List.length_take, Nat.min_eq_left (by omega)]
theorem val_take_ge {ds : List Nat} {j : Nat} (hj : ds.length ≤ j) : val BB (ds.take (j + 1)) = val BB (ds.take j) := by
  rw [List.take_of_length_le hj, List.take_of_length_le (by omega)]

/-- One step of a sum by hand. -/
theorem sum_step {A B V c d e P q r : Nat} (h : A + B = V + P * c) (hq : d + c + e = BB * q + r) : (A + P * d) + (B + P * e) = (V + P * r) + (P * BB) * q := by
  have h1 : P * (d + c + e) = P * (BB * q + r) := by rw [hq]
  rw [Nat.mul_add, Nat.mul_add, Nat.mul_add, ← Nat.mul_assoc] at h1
  omega

structure PlusSt (w : World) (base : Nat) (x y : List Nat) (j : Nat) (v : Value) (ds : List Nat) (c : Nat) (wr : World) : Prop where
  own : OwnD wr base v ds
  len : ds.length = j
  digs : Digs BB ds
  sum : val BB (x.take j) + val BB (y.take j) = val BB ds + BB ^ j * c
  car : c ≤ 1
  bel : Below base w wr
  le : base ≤ wr.heap.size

theorem PlusSt.next {w wr w' : World} {base j c : Nat} {x y ds : List Nat} {v v' : Value} (s : PlusSt w base x y j v ds c wr) (e q r : Nat) (hj : j < x.length) (he : val BB (y.take (j + 1)) = val BB (y.take j) + BB ^ j * e) (hq : x[j] + c + e = BB * q + r) (hr : r < BB) (hq1 : q ≤ 1)
    (ho : OwnD w' base v' (ds ++ [r])) (hb : Below base wr w') : PlusSt w base x y (j + 1) v' (ds ++ [r]) q w' := by
  refine ⟨ho, by simp [s.len], s.digs.snoc hr, ?_, hq1, s.bel.trans hb, Nat.le_trans s.le hb.size⟩
  rw [val_take_succ hj, he, val_snoc, s.len, Nat.pow_succ]
  exact sum_step s.sum hq

set_option maxRecDepth 100000 in
set_option maxHeartbeats 1600000 in
theorem plus_any (a b : Option Addr) (ca cb : Nat) (x y : List Nat) (w : World) (hx : Dg .u32 w a x) (hy : Dg .u32 w b y) (dx : Digs BB x) (dy : Digs BB y) (hn : x.length ≤ 1099511627776) (hm : y.length ≤ 1099511627776) :
    Calls Tryd.prog 65 #[.slice a x.length ca, .slice b y.length cb] w (DigPost w (val BB x + val BB y) (max x.length y.length + 1)) := by
  generalize hP : DigPost w (val BB x + val BB y) (max x.length y.length + 1) = Post
  have HP := hide hP
  clear hP
  go_enter Tryd.func65, Tryd.ntmps65
  go_upto_if 13 with (fail)
  generalize hlb : decide ((x.length : Int) < (y.length : Int)) = lb
  have HLB := hide hlb
  clear hlb
  go_cut [0, 1] from 14 to 15 (fun v0 v1 wc => w = wc ∧ ∃ p q cp cq X Y, v0 = .slice p (List.length X) cp ∧ v1 = .slice q (List.length Y) cq ∧ Dg .u32 w p X ∧ Dg .u32 w q Y ∧ Digs BB X ∧ Digs BB Y ∧ Y.length ≤ X.length ∧ X.length ≤ 1099511627776 ∧ Hid (val BB X + val BB Y = val BB x + val BB y ∧ max x.length y.length = X.length))
  case first =>
    cases lb with
    | true =>
      have hlt : x.length < y.length := by have := HLB.out; simp at this; omega
      go_wp2_with fail
      go_meet
      exact ⟨rfl, b, a, cb, ca, y, x, rfl, rfl, hy, hx, dy, dx, by omega, hm, hide ⟨by omega, by omega⟩⟩
    | false =>
      have hlt : y.length ≤ x.length := by have := HLB.out; simp at this; omega
      go_wp2_with fail
      go_meet
      exact ⟨rfl, a, b, ca, cb, x, y, rfl, rfl, hx, hy, dx, dy, hlt, hn, hide ⟨rfl, by omega⟩⟩
  case rest =>
    obtain ⟨rfl, p, q, cp, cq, X, Y, rfl, rfl, hX, hY, dX, dY, hle, hXn, HS⟩ := hcut
    clear hx hy dx dy hn hm
    go_wp2_with (at_make; refine wpList_make_dig rfl _ _ rfl _ (X.length + 1) rfl rfl (by omega) (by omega) ?_)
    intro w1 v1 ho1 hb1
    have s0 : PlusSt w w.heap.size X Y 0 v1 [] 0 w1 := ⟨ho1, rfl, Digs.nil _, by simp [val], by omega, hb1, hb1.size⟩
    go_wp2_with fail
    go_loopg [5, 6, 22] X.length (fun r v c i wr => ∃ (j : Nat) (ds : List Nat) (cc : Nat), j + r = X.length ∧ i = .int .i64 (j : Int) ∧ c = .int .u32 (cc : Int) ∧ PlusSt w w.heap.size X Y j v ds cc wr)
    case atStart => exact ⟨0, [], 0, by omega, rfl, rfl, s0⟩
    case round =>
      obtain ⟨j, ds, cc, hjr, rfl, rfl, s⟩ := hrel
      have HJ := hide hjr
      clear hjr s0 ho1 hb1
      have hcar := s.car
      have hlen := s.len
      rcases Nat.lt_or_ge j X.length with hj | hj
      · obtain ⟨b1, o1, rfl, hc1, hl1⟩ := hX.at hj
        replace hc1 := (s.bel.cell (p := ⟨b1, o1 + j, none⟩) hl1).trans hc1
        have hdB := dX.at hj
        have hBB := BB_eq
        rcases Nat.lt_or_ge j Y.length with hk | hk
        · obtain ⟨b2, o2, rfl, hc2, hl2⟩ := hY.at hk
          replace hc2 := (s.bel.cell (p := ⟨b2, o2 + j, none⟩) hl2).trans hc2
          have heB := dY.at hk
          have HE := hide (val_take_succ (ds := Y) hk)
          have HN := hide (fun (w' : World) (v' : Value) (q r : Nat) => PlusSt.next (w' := w') (v' := v') s Y[j] q r hj HE.out)
          generalize X[j] = d at hc1 hdB HN
          generalize Y[j] = e at hc2 heB HN HE
          have hd9 : d < 1000000000 := by omega
          have he9 : e < 1000000000 := by omega
          clear hBB hdB heB HE
          obtain ⟨r, hr⟩ : ∃ r : Nat, r = (d + cc + e) % 1000000000 := ⟨_, rfl⟩
          obtain ⟨q, hq⟩ : ∃ q : Nat, q = (d + cc + e) / 1000000000 := ⟨_, rfl⟩
          have hr1 : ((d : Int) + (cc : Int) + (e : Int)) % 1000000000 = (r : Int) := by omega
          have hq1 : ((d : Int) + (cc : Int) + (e : Int)) / 1000000000 = (q : Int) := by omega
          have HF : Hid (d + cc + e = BB * q + r ∧ r < BB ∧ q ≤ 1) := hide (by rw [BB_eq]; omega)
          clear hr hq
          have ho1 := s.own.alloc (.cells #[.int .u32 (r : Int)] 81)
          have hle1 := s.le
          go_wp2_with (at_builtin; refine wpList_append_dig rfl (.tmp 42) (.tmp 45) rfl w.heap.size _ ds rfl ho1 ⟨_, 0, none⟩ r rfl ?c1 ?c2 ?c3 ?_)
          case c1 => rw [add_plain]; exact (Blk.new _ _ _).cell 0
          case c2 => omega
          case c3 => simp; omega
          intro v' w2 ho2 hb2
          have hb3 : Below w.heap.size wr w2 := ((Below.refl _ _).alloc hle1 _).trans hb2
          have s2 := HN.out w2 v' q r HF.out.1 HF.out.2.1 HF.out.2.2 ho2 hb3
          clear s ho1 ho2 hb2 hb3 HN HF hr1
          go_wp2_with fail
          have hjr := HJ.out
          go_roundg (gk - 1)
          case measure => omega
          case rel => exact ⟨j + 1, _, q, by omega, by go_num, rfl, s2⟩
        · have HE : Hid (val BB (Y.take (j + 1)) = val BB (Y.take j) + BB ^ j * 0) := hide (by rw [val_take_ge hk]; simp)
          have HN := hide (fun (w' : World) (v' : Value) (q r : Nat) => PlusSt.next (w' := w') (v' := v') s 0 q r hj HE.out)
          generalize X[j] = d at hc1 hdB HN
          have hd9 : d < 1000000000 := by omega
          clear hBB hdB HE
          obtain ⟨r, hr⟩ : ∃ r : Nat, r = (d + cc) % 1000000000 := ⟨_, rfl⟩
          obtain ⟨q, hq⟩ : ∃ q : Nat, q = (d + cc) / 1000000000 := ⟨_, rfl⟩
          have hr1 : ((d : Int) + (cc : Int)) % 1000000000 = (r : Int) := by omega
          have hq1 : ((d : Int) + (cc : Int)) / 1000000000 = (q : Int) := by omega
          have HF : Hid (d + cc + 0 = BB * q + r ∧ r < BB ∧ q ≤ 1) := hide (by rw [BB_eq]; omega)
          clear hr hq
          have ho1 := s.own.alloc (.cells #[.int .u32 (r : Int)] 81)
          have hle1 := s.le
          go_wp2_with (at_builtin; refine wpList_append_dig rfl (.tmp 42) (.tmp 45) rfl w.heap.size _ ds rfl ho1 ⟨_, 0, none⟩ r rfl ?c1 ?c2 ?c3 ?_)
          case c1 => rw [add_plain]; exact (Blk.new _ _ _).cell 0
          case c2 => omega
          case c3 => simp; omega
          intro v' w2 ho2 hb2
          have hb3 : Below w.heap.size wr w2 := ((Below.refl _ _).alloc hle1 _).trans hb2
          have s2 := HN.out w2 v' q r HF.out.1 HF.out.2.1 HF.out.2.2 ho2 hb3
          clear s ho1 ho2 hb2 hb3 HN HF hr1
          go_wp2_with fail
          have hjr := HJ.out
          go_roundg (gk - 1)
          case measure => omega
          case rel => exact ⟨j + 1, _, q, by omega, by go_num, rfl, s2⟩
      · have ho1 := s.own.alloc (.cells #[.int .u32 (cc : Int)] 81)
        have hle1 := s.le
        go_wp2_with (at_builtin; refine wpList_append_dig rfl (.tmp 48) (.tmp 50) rfl w.heap.size _ ds rfl ho1 ⟨_, 0, none⟩ cc rfl ?c1 ?c2 ?c3 ?_)
        case c1 => rw [add_plain]; exact (Blk.new _ _ _).cell 0
        case c2 => have := HJ.out; omega
        case c3 => simp; omega
        intro v' w2 ho2 hb2
        have hb3 : Below w.heap.size w w2 := s.bel.trans (((Below.refl _ _).alloc hle1 _).trans hb2)
        obtain ⟨ra, rc, rfl⟩ := own_slice ho2
        obtain ⟨hD2, hc2⟩ := own_dg ho2
        go_wp2_with fail
        rw [← HP.out]
        obtain ⟨e1, e2⟩ := HS.out
        have hjr := HJ.out
        refine ⟨ra, rc, ds ++ [cc], rfl, hc2, hD2, s.digs.snoc (by rw [BB_eq]; omega), ?_, ?_, hb3⟩
        · rw [val_snoc, s.len, ← s.sum, List.take_of_length_le hj, List.take_of_length_le (by omega)]
          exact e1
        · rw [List.length_append, s.len, e2]; simp; omega
end Go.Proofs.YthpibilefdmemaaDoor
