/- collatorref01.Of: by its contract. -/
import Derived.Test.YthpibilefdmemaaDoorRDig
import Derived.Test.YthpibilefdmemaaDoorGcd
namespace Go.Proofs.YthpibilefdmemaaDoor
open Go.RowKit

theorem Dg.storeT {t : TypeId} {k : IntKind} {w : World} {a : Option Addr} {ds : List Nat} {g l m : Nat} {n : Bool} {b : Option Addr} (h : Dg k w a ds) (hB : Blk w g t #[.bool n, .slice b l m]) (x y : Value) : Dg k ((w.setCell ⟨g, 0, none⟩ x).setCell ⟨g, 1, none⟩ y) a ds := by
  intro hn
  obtain ⟨p, off, e, hc⟩ := h hn
  refine ⟨p, off, e, fun i hi => ?_⟩
  have h0 : (⟨g, 0, none⟩ : Addr) ≠ ⟨p, off + i, none⟩ := fun e => by
    have := hc i hi
    rw [← e, hB.cell 0] at this
    cases this
  have h1 : (⟨g, 1, none⟩ : Addr) ≠ ⟨p, off + i, none⟩ := fun e => by
    have := hc i hi
    rw [← e, hB.cell 1] at this
    cases this
  rw [World.cell?_setCell_other _ _ _ _ h1, World.cell?_setCell_other _ _ _ _ h0]
  exact hc i hi
theorem NumV.store {t : TypeId} {w : World} {v : Value} {z : Int} {g l m : Nat} {n : Bool} {b : Option Addr} (h : NumV w v z) (hB : Blk w g t #[.bool n, .slice b l m]) (x y : Value) : NumV ((w.setCell ⟨g, 0, none⟩ x).setCell ⟨g, 1, none⟩ y) v z := by
  obtain ⟨a, cap, e, hc, hd⟩ := h
  exact ⟨a, cap, e, hc, hd.storeT hB x y⟩
theorem BB_pow (i : Nat) : BB ^ i = 10 ^ (9 * i) := by rw [show BB = 10 ^ 9 from rfl, ← Nat.pow_mul]
/-- What is told of the digits ahead of i, and k decimal digits of the next one. -/
structure ROfSt (w : World) (base : Nat) (X : List Nat) (i k : Nat) (v : Value) (ds : List Nat) (n : Nat) (wr : World) : Prop where
  own : OwnE wr base v ds
  len : ds.length = 9 * i + k
  digs : Digs 10 ds
  sum : val 10 ds + 10 ^ (9 * i + k) * n = val BB (X.take (i + 1))
  nb : n < 10 ^ (9 - k)
  bel : Below base w wr
  le : base ≤ wr.heap.size
theorem ROfSt.next {w wr w' : World} {base i k n : Nat} {X ds : List Nat} {v v' : Value} (s : ROfSt w base X i k v ds n wr) (hk : k < 9) (q r : Nat) (hq : n = 10 * q + r) (hr : r < 10)
    (ho : OwnE w' base v' (ds ++ [r])) (hb : Below base wr w') : ROfSt w base X i (k + 1) v' (ds ++ [r]) q w' := by
  refine ⟨ho, by simp [s.len]; omega, s.digs.snoc hr, ?_, ?_, s.bel.trans hb, Nat.le_trans s.le hb.size⟩
  · rw [← s.sum, val_snoc, s.len, hq, ← Nat.add_assoc, Nat.pow_succ, Nat.mul_add, Nat.mul_assoc]
    omega
  · have h := s.nb
    rw [show 9 - k = (9 - (k + 1)) + 1 by omega, Nat.pow_succ] at h
    omega
/-- What is told of the digits ahead of i. -/
structure ROfOut (w : World) (base : Nat) (X : List Nat) (i : Nat) (v : Value) (ds : List Nat) (wr : World) : Prop where
  own : OwnE wr base v ds
  len : ds.length = 9 * i
  digs : Digs 10 ds
  sum : val 10 ds = val BB (X.take i)
  bel : Below base w wr
  le : base ≤ wr.heap.size
theorem ROfOut.inn {w wr : World} {base i : Nat} {X ds : List Nat} {v : Value} (s : ROfOut w base X i v ds wr) (hi : i < X.length) (hX : Digs BB X) : ROfSt w base X i 0 v ds X[i] wr :=
  ⟨s.own, s.len, s.digs, by rw [val_take_succ hi, s.sum, BB_pow]; rfl, hX.at hi, s.bel, s.le⟩
theorem ROfSt.out {w wr : World} {base i n : Nat} {X ds : List Nat} {v : Value} (s : ROfSt w base X i 9 v ds n wr) : ROfOut w base X (i + 1) v ds wr := by
  have h0 : n = 0 := by have := s.nb; simpa using this
  exact ⟨s.own, by rw [s.len]; omega, s.digs, by rw [← s.sum, h0]; rfl, s.bel, s.le⟩

set_option maxRecDepth 100000 in
set_option maxHeartbeats 1600000 in
theorem ROf_any {x : Int} {v : Value} (w : World) (hx : IntV w v x) (hn : len x ≤ 1000000000) :
    Calls Tryd.prog 22 #[v] w (NumPost w x) := by
  generalize hP : NumPost w x = Post
  have HP := hide hP
  clear hP
  obtain ⟨a, cap, rfl, hf, hd⟩ := hx
  have hX := (dg_canon BB2 x.natAbs).1
  have HX : Hid (val BB (dg BB x.natAbs) = x.natAbs) := hide (dg_val BB2 _)
  have HN : Hid (signZ (decide (x < 0)) x.natAbs = x) := hide (by
    unfold signZ
    by_cases h : x < 0
    · rw [decide_eq_true h, if_pos rfl]; omega
    · rw [decide_eq_false h, if_neg (by decide)]; omega)
  unfold len at hn
  generalize dg BB x.natAbs = X at *
  generalize decide (x < 0) = neg at *
  obtain ⟨W, hW⟩ : ∃ W, ((w.alloc (.cells #[.bool neg, .slice a X.length cap] 24)).alloc (.cells #[.bool false, .slice none 0 0] 30)).alloc (.cells #[] 3) = W := ⟨_, rfl⟩
  have hsz : W.heap.size = w.heap.size + 3 := by rw [← hW]; simp
  have hZ : Blk W w.heap.size 24 #[.bool neg, .slice a X.length cap] := by rw [← hW]; exact ((Blk.new w _ _).alloc _).alloc _
  have hR : Blk W (w.heap.size + 1) 30 #[.bool false, .slice none 0 0] := by rw [← hW]; exact (Blk.new_at _ _ _ (by simp)).alloc _
  have hB : Below w.heap.size w W := by rw [← hW]; exact (((Below.refl _ _).alloc (Nat.le_refl _) _).alloc (by simp) _).alloc (by simp; omega) _
  have s0 : ROfOut W (w.heap.size + 2) X 0 (.slice (some ⟨w.heap.size + 2, 0, none⟩) 0 0) [] W := by
    refine ⟨?_, rfl, Digs.nil _, by simp [val], Below.refl _ _, by omega⟩
    rw [← hW]
    have h := own_empty ((w.alloc (.cells #[.bool neg, .slice a X.length cap] 24)).alloc (.cells #[.bool false, .slice none 0 0] 30))
    simpa using h
  have hd0 := hd.below hB (Nat.le_refl _)
  have HSZ := hide hsz
  clear hsz
  go_enter Tryd.func22, Tryd.ntmps22
  go_wp2_with fail
  clear hW
  go_loopg [3, 4, 5, 6] X.length (fun r v i _n _k wr => ∃ (j : Nat) (ds : List Nat), j + r = X.length ∧ i = .int .i64 (j : Int) ∧ ROfOut W (w.heap.size + 2) X j v ds wr)
  case atStart => exact ⟨0, [], by omega, rfl, s0⟩
  case round =>
    obtain ⟨j, ds, hjr, rfl, s⟩ := hrel
    clear s0
    have hlen := s.len
    obtain ⟨z0, z1, -⟩ := (hZ.below s.bel (by omega)).c2
    rcases Nat.lt_or_ge j X.length with hj | hj
    · obtain ⟨b1, o1, rfl, hc1, hl1⟩ := hd0.at hj
      have hl2 : b1 < w.heap.size := by
        have := World.block_lt_of_cell? w _ (by obtain ⟨b, o, e, hc⟩ := hd (by omega); simp at e; obtain ⟨rfl, rfl⟩ := e; exact hc j hj)
        exact this
      replace hc1 := (s.bel.cell (p := ⟨b1, o1 + j, none⟩) (by show b1 < _; omega)).trans hc1
      have st := s.inn hj hX
      clear s
      generalize X[j] = d at hc1 st
      have hd9 : d < 1000000000 := st.nb
      have HJ := hide hjr
      clear hjr
      obtain ⟨G, hG⟩ : ∃ G, G = gk := ⟨_, rfl⟩
      subst hG
      go_wp2_with fail
      go_loopg [3, 5, 6] 9 (fun r v n k wi => ∃ (ds : List Nat) (nn : Nat), r ≤ 9 ∧ k = .int .i64 ((9 - r : Nat) : Int) ∧ n = .int .i64 (nn : Int) ∧ ROfSt W (w.heap.size + 2) X j (9 - r) v ds nn wi)
      case atStart => exact ⟨ds, d, Nat.le_refl _, rfl, rfl, st⟩
      case round =>
        obtain ⟨es, n, hr9, rfl, rfl, t⟩ := hrel
        clear st
        obtain ⟨k, hk⟩ : ∃ k, k = 9 - gk := ⟨_, rfl⟩
        rw [← hk] at t ⊢
        have hk9 : k ≤ 9 := by omega
        have HKK := hide hk
        have hgk : gk = 9 - k := by omega
        clear hk
        rcases Nat.lt_or_ge k 9 with h9 | h9
        · have hnb : n < 1000000000 := Nat.lt_of_lt_of_le t.nb (show 10 ^ (9 - k) ≤ 10 ^ 9 from Nat.pow_le_pow_right (by decide) (by omega))
          have hel := t.len
          obtain ⟨r, hr⟩ : ∃ r : Nat, r = n % 10 := ⟨_, rfl⟩
          obtain ⟨q, hq⟩ : ∃ q : Nat, q = n / 10 := ⟨_, rfl⟩
          have hr1 : (n : Int) % 10 = (r : Int) := by omega
          have HQ1 : Hid ((n : Int) / 10 = (q : Int)) := hide (by omega)
          have HF : Hid (n = 10 * q + r ∧ r < 10) := hide (by omega)
          clear hr hq
          have ho1 := t.own.alloc (.cells #[.int .i64 (r : Int)] 3)
          have hle1 := t.le
          have HG := hide hgk
          clear hgk
          go_wp2_with (at_builtin; refine wpList_append_int rfl (.tmp 25) (.tmp 28) rfl (w.heap.size + 2) _ es rfl ho1 ⟨_, 0, none⟩ r rfl ?c1 ?c2 ?c3 ?_)
          case c1 => rw [add_plain]; exact (Blk.new _ _ _).cell 0
          case c2 => omega
          case c3 => simp; omega
          intro v' w2 ho2 hb2
          have hb3 : Below (w.heap.size + 2) wr w2 := ((Below.refl _ _).alloc hle1 _).trans hb2
          have t2 := t.next h9 q r HF.out.1 HF.out.2 ho2 hb3
          clear t ho1 ho2 hb2 hb3 HF hr1
          go_wp2_with fail
          have hgk := HG.out
          go_roundg (gk - 1)
          case measure => omega
          case rel =>
            rw [show 9 - (gk - 1) = k + 1 by omega]
            exact ⟨_, q, by omega, by go_num, by rw [HQ1.out], t2⟩
        · obtain rfl : k = 9 := by omega
          have s2 := t.out
          clear t
          go_wp2_with fail
          have hjr := HJ.out
          go_roundg (G - 1)
          case measure => omega
          case rel => exact ⟨j + 1, es, by omega, by go_num, s2⟩
    · obtain rfl : j = X.length := by omega
      obtain ⟨ra, rc, rfl⟩ := own_slice s.own
      obtain ⟨hD2, hc2⟩ := own_dg s.own
      have hval : signZ neg (val 10 ds) = x := by
        have h := s.sum
        rw [List.take_length, HX.out] at h
        rw [h]; exact HN.out
      have HV := hide hval
      have hB2 : Below w.heap.size w wr := hB.trans (s.bel.mono (by omega))
      have hR2 := hR.below s.bel (by omega)
      have hdg := s.digs
      have hdl : ds.length ≤ 2199023255552 := by omega
      clear hval s hlen
      go_wp2_with fail
      refine (make1_any neg ra rc ds wr hD2 hdg hc2 hdl).mono ?_
      rintro e w3 ⟨r3, rfl, h3, hb3⟩
      rw [HV.out] at h3
      obtain ⟨rn, rr, rl, rk, rfl⟩ := h3.parts
      have hR3 := hR2.below hb3 hR2.lt
      have hB3 : Below w.heap.size w w3 := hB2.trans (hb3.mono hB2.size)
      obtain ⟨k0, k1, kf⟩ := hR3.c2
      have kf0 := kf 0
      have kf1 := kf 1
      obtain ⟨e0, e1, -⟩ := (hR3.two (.bool rn) (.slice rr rl rk)).c2
      have hI := h3.store hR3 (.bool rn) (.slice rr rl rk)
      go_wp2_with fail
      refine bodyPost_ret (v := .agg #[.bool rn, .slice rr rl rk]) (by simp [results, Tryd.results22, go_sem, e0, e1]) rfl ?_
      rw [← HP.out]
      exact ⟨_, rfl, hI, (hB3.setCell (by simp) _).setCell (by simp) _⟩
end Go.Proofs.YthpibilefdmemaaDoor
