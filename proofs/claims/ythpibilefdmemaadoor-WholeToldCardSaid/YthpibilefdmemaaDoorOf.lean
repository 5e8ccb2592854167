/- whole.Of: by its contract. -/
import Derived.Test.YthpibilefdmemaaDoorTwo
namespace Go.Proofs.YthpibilefdmemaaDoor
open Go.RowKit

structure OfSt (w : World) (base N : Nat) (v : Value) (ds : List Nat) (L : Nat) (wr : World) : Prop where
  own : OwnD wr base v ds
  digs : Digs BB ds
  sum : N = val BB ds + BB ^ ds.length * L
  last : L = 0 → ds.getLast? ≠ some 0
  bel : Below base w wr
  le : base ≤ wr.heap.size
  len : 0 < L → BB ^ ds.length ≤ N

theorem OfSt.next {w wr w' : World} {base N L : Nat} {ds : List Nat} {v v' : Value} (s : OfSt w base N v ds L wr) (hL : 0 < L) (r q : Nat) (hq : L = BB * q + r) (hr : r < BB) (ho : OwnD w' base v' (ds ++ [r])) (hb : Below base wr w') : OfSt w base N v' (ds ++ [r]) q w' := by
  have hs := s.sum
  have e : val BB (ds ++ [r]) + BB ^ (ds ++ [r]).length * q = N := by
    rw [hs, val_snoc, List.length_append, List.length_singleton, Nat.pow_succ, hq, Nat.mul_add, Nat.mul_assoc]
    omega
  refine ⟨ho, s.digs.snoc hr, e.symm, fun h0 => ?_, s.bel.trans hb, Nat.le_trans s.le hb.size, fun h0 => ?_⟩
  · subst h0; simp; omega
  · rw [← e]
    refine Nat.le_trans ?_ (Nat.le_add_left _ _)
    exact Nat.le_mul_of_pos_right _ h0

theorem pow_big {k N : Nat} (h : BB ^ k ≤ N) (hN : N ≤ 9223372036854775808) : k ≤ 2 := by
  rcases Nat.lt_or_ge 2 k with h3 | h3
  · have : BB ^ 3 ≤ BB ^ k := Nat.pow_le_pow_right (by decide) h3
    have : BB ^ 3 = 1000000000000000000000000000 := by rw [BB_eq]
    omega
  · exact h3

theorem u64_of_neg {n : Int} (h1 : -9223372036854775808 ≤ n) (h : n < 0) : IntKind.u64.wrap (-IntKind.u64.wrap n) = (n.natAbs : Int) := by
  have hw : ∀ m : Int, IntKind.u64.wrap m = m % 18446744073709551616 := fun m => by simp [IntKind.wrap, IntKind.bits, IntKind.signed]
  rw [hw, hw]
  omega
theorem u64_of_nn {n : Int} (h2 : n ≤ 9223372036854775807) (h : ¬ n < 0) : IntKind.u64.wrap n = (n.natAbs : Int) := by
  rw [IntWalk.u64_in n (by omega)]; omega

set_option maxRecDepth 100000 in
set_option maxHeartbeats 1600000 in
theorem Of_any (n : Int) (w : World) (h1 : -9223372036854775808 ≤ n) (h2 : n ≤ 9223372036854775807) :
    Calls Tryd.prog 18 #[.int .i64 n] w (IntPost w n) := by
  generalize hP : IntPost w n = Post
  have HP := hide hP
  clear hP
  have hZ0 := Blk.new w 24 #[.bool false, .slice none 0 0]
  have hB0 : Below w.heap.size w (w.alloc (.cells #[.bool false, .slice none 0 0] 24)) := (Below.refl _ _).alloc (Nat.le_refl _) _
  go_enter Tryd.func18, Tryd.ntmps18
  go_upto_if 8 with (fail)
  generalize hlb : decide (n < 0) = lb
  have HLB := hide hlb
  clear hlb
  go_cut [3] from 9 to 10 (fun v3 wc => (w.alloc (.cells #[.bool false, .slice none 0 0] 24)) = wc ∧ v3 = .int .u64 (n.natAbs : Int))
  case first =>
    cases lb with
    | true =>
      have hlt : n < 0 := by simpa using HLB.out
      have e := u64_of_neg h1 hlt
      go_wp2_with fail
      go_meet
      exact ⟨rfl, rfl⟩
    | false =>
      have hlt : ¬ n < 0 := by simpa using HLB.out
      have E := hide (u64_of_nn h2 hlt)
      go_wp2_with fail
      go_meet
      exact ⟨rfl, by rw [E.out]⟩
  case rest =>
    obtain ⟨rfl, rfl⟩ := hcut
    obtain ⟨W, hW⟩ : ∃ W, w.alloc (.cells #[.bool false, .slice none 0 0] 24) = W := ⟨_, rfl⟩
    have hsz : W.heap.size = w.heap.size + 1 := by rw [← hW, World.size_alloc]
    have HSZ := hide hsz
    rw [hW] at hZ0 hB0 ⊢
    clear hW hsz
    have hN : n.natAbs ≤ 9223372036854775808 := by omega
    have HN := hide (show (signZ lb n.natAbs) = n by
      have := HLB.out
      cases lb with
      | true => simp at this; simp [signZ]; omega
      | false => simp at this; simp [signZ]; omega)
    have HNN := hide (show decide (n < 0) = lb from HLB.out)
    generalize n.natAbs = N at *
    have s0 : OfSt W (w.heap.size + 1) N (.slice none 0 0) [] N W := ⟨OwnD.nil _ _, Digs.nil _, by simp [val], fun _ => by simp, Below.refl _ _, by rw [HSZ.out]; exact Nat.le_refl _, fun h => by simp; omega⟩
    go_wp2_with fail
    go_loopg [3, 4] N (fun r l v wr => ∃ (L : Nat) (ds : List Nat), L = r ∧ l = .int .u64 (L : Int) ∧ OfSt W (w.heap.size + 1) N v ds L wr)
    case atStart => exact ⟨N, [], rfl, rfl, s0⟩
    case round =>
      obtain ⟨L, ds, hLr, rfl, s⟩ := hrel
      have HL := hide hLr
      clear hLr s0
      rcases Nat.eq_zero_or_pos L with h0 | h0
      · subst h0
        have hc : Canon BB ds := ⟨s.digs, s.last rfl⟩
        have hv : N = val BB ds := by have := s.sum; simpa using this
        obtain ⟨va, vc, rfl⟩ := own_slice s.own
        obtain ⟨hD, hF⟩ := own_dg s.own
        have hZ1 := hZ0.below s.bel (Nat.lt_succ_self _)
        have hB1 := hB0.trans (s.bel.mono (by omega))
        have hI : IntV wr (.agg #[.bool lb, .slice va ds.length vc]) n := by
          have e : n.natAbs = val BB ds := by rw [← HN.out, signZ_abs, hv]
          refine ⟨va, vc, ?_, ?_, ?_⟩
          · rw [HNN.out, e, ← hc.eq_dg BB2]
          · rw [e, ← hc.eq_dg BB2]; exact hF
          · rw [e, ← hc.eq_dg BB2]; exact hD
        have hI2 := hI.store hZ1 (.bool lb) (.slice va ds.length vc)
        obtain ⟨k0, k1, kf⟩ := hZ1.c2
        obtain ⟨e0, e1, -⟩ := (hZ1.two (.bool lb) (.slice va ds.length vc)).c2
        have kf0 := kf 0
        have kf1 := kf 1
        have hlb := HNN.out
        clear hv s
        go_wp2_with fail
        refine bodyPost_ret (v := .agg #[.bool lb, .slice va ds.length vc]) (by simp [results, Tryd.results18, go_sem, e0, e1]) rfl ?_
        rw [← HP.out]
        exact ⟨_, rfl, hI2, (hB1.setCell (Nat.le_refl _) _).setCell (Nat.le_refl _) _⟩
      · have hBB := BB_eq
        have hLN : L ≤ N := by
          have h1 := s.sum
          have h2 : 1 * L ≤ BB ^ ds.length * L := Nat.mul_le_mul_right _ (Nat.pos_of_ne_zero (by simp; omega))
          omega
        have hlen : ds.length ≤ 2 := pow_big (s.len h0) hN
        obtain ⟨r, hr⟩ : ∃ r : Nat, r = L % 1000000000 := ⟨_, rfl⟩
        obtain ⟨q, hq⟩ : ∃ q : Nat, q = L / 1000000000 := ⟨_, rfl⟩
        have hr1 : (L : Int) % 1000000000 = (r : Int) := by omega
        have hq1 : (L : Int) / 1000000000 = (q : Int) := by omega
        have hr9 : r < 1000000000 := by omega
        have HF : Hid (L = BB * q + r ∧ r < BB ∧ q < L) := hide (by rw [BB_eq]; omega)
        clear hr hq hBB
        have ho1 := s.own.alloc (.cells #[.int .u32 (r : Int)] 81)
        have hle1 := s.le
        go_wp2_with (at_builtin; refine wpList_append_dig rfl (.tmp 15) (.tmp 19) rfl (w.heap.size + 1) _ ds rfl ho1 ⟨_, 0, none⟩ r rfl ?c1 ?c2 ?c3 ?_)
        case c1 => rw [add_plain]; exact (Blk.new _ _ _).cell 0
        case c2 => omega
        case c3 => simp; omega
        intro v' w2 ho2 hb2
        have hb3 : Below (w.heap.size + 1) wr w2 := ((Below.refl _ _).alloc hle1 _).trans hb2
        have s2 := s.next h0 r q HF.out.1 HF.out.2.1 ho2 hb3
        clear s ho1 ho2 hb2 hb3 hr1
        go_wp2_with fail
        go_roundg q
        case measure => have h1 := HL.out; have h2 := HF.out.2.2; omega
        case rel => exact ⟨q, _, rfl, rfl, s2⟩
end Go.Proofs.YthpibilefdmemaaDoor
