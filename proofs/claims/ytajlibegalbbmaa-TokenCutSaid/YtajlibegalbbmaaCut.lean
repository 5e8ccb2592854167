/- The walk of the law TokenCut. -/
import Derived.Test.YtajlibegalbbmaaReads
import Derived.Test.YtajlibegalbbmaaCutLaw
namespace Go.Proofs.Ytajlibegalbbmaa
open Go.RowKit

theorem run_upto (w : World) (t n : Nat) (ht : Try.prog.underlying t = some (.slice (Try.prog.elem t))) (hs : (sizeOf (Try.prog.elem t)).run Try.prog w = .ok n w) (a : Option Addr) (len cap h : Nat) (y : Int) (hy : y = (h : Int)) (h2 : h ≤ cap) :
    (Instr.slice t (.slice a len cap) none (some (.int .i64 y)) none).run Try.prog w = .ok (.slice a h cap) w := by
  subst hy
  rw [run_slice_h (P := Try.prog) w t a len cap ht .i64 (h : Int) (by omega) (by omega), hs]
  simp only [Result.andThen, sliced]
  congr 1
  split
  · simp
  · cases a <;> simp [Addr.add]

theorem size_tok (w : World) : (sizeOf 35).run Try.prog w = .ok 3 w := by kernel_rfl
theorem Txt.take {w : World} {B : Nat} {ta : Option Addr} {bs : List UInt8} (h : Txt w B ta bs) (k : Nat) : Txt w B ta (bs.take k) := by
  intro hn
  obtain ⟨b, off, e, hb, hc⟩ := h (by simp at hn; omega)
  refine ⟨b, off, e, hb, fun i hi => ?_⟩
  have := hc i (by simp at hi; omega)
  simpa using this

theorem res_err {most : Int} {bs : List UInt8} {a : Nat} (h : ¬ max most 0 < (bs.length : Int)) (hl : lex bs = .error a) : resT most bs = (10, (a : Int), []) := by
  unfold resT; rw [if_neg h, hl]
theorem res_ok {most : Int} {bs : List UInt8} {l : List (Nat × List UInt8 × Nat)} (h : ¬ max most 0 < (bs.length : Int)) (hl : lex bs = .ok l) : resT most bs = (0, 0, l) := by
  unfold resT; rw [if_neg h, hl]

theorem and_mask (n : Int) : bits .and .i64 n 65535 = n % 65536 := by
  have hm : (BitVec.ofInt 64 65535).toNat = 2 ^ 16 - 1 := by decide
  have key : (BitVec.ofInt 64 n &&& BitVec.ofInt 64 65535).toNat = (n % ((2 ^ 64 : Nat) : Int)).toNat % 2 ^ 16 := by
    rw [BitVec.toNat_and, BitVec.toNat_ofInt, hm, Nat.and_two_pow_sub_one_eq_mod]
  show IntKind.i64.wrap ((BitVec.ofInt 64 n &&& BitVec.ofInt 64 65535).toNat : Nat) = n % 65536
  rw [key, IntKind.wrap_i64]
  omega

set_option maxHeartbeats 1600000 in
theorem cut_walk (a0 : Option Addr) (cap0 : Nat) (bs : List UInt8) (cut : Int) (w : World) (ht : Txt w w.heap.size a0 bs) (hfit : bs.length ≤ cap0) :
    Calls Try.prog 4 #[.slice a0 bs.length cap0, .int .i64 cut] w fun e w' => e = .returned (.bool true) ∧ Below w.heap.size w w' := by

  by_cases hlen : bs.length ≤ 2000
  · go_enter Try.func4, Try.ntmps4
    go_wp2_with fail
    refine (speaks_any _).mono ?_
    rintro e w1 ⟨rfl, hb1⟩
    go_wp2_with fail
    refine (read_any w1 a0 cap0 bs (bs.length : Int) ((ht.keep fun k hk => hb1.block k hk).more hb1.size) hfit (by omega)).mono ?_
    intro e w2 hpost
    obtain ⟨hb2, la, lc, rfl, hrow, hlenT, hlc⟩ := read_sum hpost
    have hb3 : Below w.heap.size w w2 := hb1.trans (hb2.mono hb1.size)
    clear hb1 hb2 hpost
    cases hlx : lex bs with
    | error a =>
      have hres := res_err (most := (bs.length : Int)) (by omega) hlx
      rw [hres] at hrow hlenT hlc ⊢
      simp only at hrow hlenT hlc ⊢
      clear hres
      unfold faultAgg
      go_wp2_with fail
      go_ret
      exact ⟨rfl, hb3.alloc hb3.size _⟩
    | ok l =>
      have hres := res_ok (most := (bs.length : Int)) (by omega) hlx
      rw [hres] at hrow hlenT hlc ⊢
      simp only at hrow hlenT hlc ⊢
      clear hres
      unfold faultAgg
      have hmask := and_mask cut
      generalize hx : cut % 65536 = x at hmask
      have hx0 : 0 ≤ x := by omega
      clear hx
      have hk0 : 0 ≤ x % ((bs.length : Int) + 1) := Int.emod_nonneg _ (by omega)
      have hk1 : x % ((bs.length : Int) + 1) < (bs.length : Int) + 1 := Int.emod_lt_of_pos _ (by omega)
      go_wp2_with fail
      obtain ⟨k, hk⟩ := Int.eq_ofNat_of_zero_le hk0
      rw [hk]
      simp only [Int.toNat_natCast]
      have hkl : k ≤ bs.length := by omega
      have hlk : (bs.take k).length = k := by rw [List.length_take]; omega
      clear hk hk0 hk1 hmask
      have hb4 : Below w.heap.size w (w2.alloc (.cells #[.int .i64 0, .int .i64 0] 27)) := hb3.alloc hb3.size _
      have hrow4 : TokRow (w2.alloc (.cells #[.int .i64 0, .int .i64 0] 27)) la l := hrow.below ((Below.refl w2.heap.size w2).alloc (Nat.le_refl _) _) (Nat.le_refl _)
      generalize hW : w2.alloc (.cells #[.int .i64 0, .int .i64 0] 27) = W4 at hb4 hrow4 ⊢
      clear hW hb3 hrow
      have hrd := read_any W4 a0 cap0 (bs.take k) (bs.length : Int) (((ht.keep fun k hk => hb4.block k hk).more hb4.size).take k) (by omega) (by omega)
      rw [hlk] at hrd
      refine hrd.mono ?_
      clear hrd
      intro e w5 hpost
      obtain ⟨hb5, xa, xc, rfl, hrow5, hlenX, hxc⟩ := read_sum hpost
      have hb6 : Below w.heap.size w w5 := hb4.trans (hb5.mono hb4.size)
      have hrow6 := hrow4.below hb5 (Nat.le_refl _)
      clear hb4 hb5 hpost hrow4
      cases hlx2 : lex (bs.take k) with
      | error a =>
        have hres := res_err (most := (bs.length : Int)) (bs := bs.take k) (by omega) hlx2
        rw [hres] at hrow5 hlenX hxc ⊢
        simp only at hrow5 hlenX hxc ⊢
        have hak := lex_err hlx2
        rw [hlk] at hak
        clear hres hlx hlx2
        unfold faultAgg
        go_wp2_with fail
        go_ret
        exact ⟨rfl, hb6.alloc hb6.size _⟩
      | ok x =>
        have hres := res_ok (most := (bs.length : Int)) (bs := bs.take k) (by omega) hlx2
        rw [hres] at hrow5 hlenX hxc ⊢
        simp only at hrow5 hlenX hxc ⊢
        obtain ⟨hxl, hxe⟩ := lex_cut hkl hlx2 hlx
        have HE := hide hxe
        clear hres hlx hlx2 hxe
        unfold faultAgg
        have hrx := hrow5.take (x.length - 1)
        have hrl := hrow6.take (x.length - 1)
        go_wp2_with fail
        rw [show max ((x.length : Int) - 1) 0 = ((x.length - 1 : Nat) : Int) by omega]
        have hb7 : Below w.heap.size w (w5.alloc (.cells #[.int .i64 0, .int .i64 0] 27)) := hb6.alloc hb6.size _
        have hrx7 : TokRow (w5.alloc (.cells #[.int .i64 0, .int .i64 0] 27)) xa (x.take (x.length - 1)) := hrx.below ((Below.refl w5.heap.size w5).alloc (Nat.le_refl _) _) (Nat.le_refl _)
        have hrl7 : TokRow (w5.alloc (.cells #[.int .i64 0, .int .i64 0] 27)) la (l.take (x.length - 1)) := hrl.below ((Below.refl w5.heap.size w5).alloc (Nat.le_refl _) _) (Nat.le_refl _)
        rw [← HE.out] at hrl7
        have htl : (x.take (x.length - 1)).length = x.length - 1 := by simp
        generalize hW : w5.alloc (.cells #[.int .i64 0, .int .i64 0] 27) = W7 at hb7 hrx7 hrl7 ⊢
        clear hW hrx hrl hrow5 hrow6 hb6
        have hn1 : x.length - 1 ≤ xc := by omega
        have hn2 : x.length - 1 ≤ lc := by omega
        have hn3 : x.length - 1 ≤ 9223372036854775807 := by omega
        clear HE
        generalize x.take (x.length - 1) = ts at hrx7 hrl7 htl
        generalize x.length - 1 = n at htl hn1 hn2 hn3 ⊢
        have hs1 := fun w => run_upto w 24 3 Try.underlying24 (size_tok w) xa x.length xc n (n : Int) rfl hn1
        have hs2 := fun w => run_upto w 24 3 Try.underlying24 (size_tok w) la l.length lc n (n : Int) rfl hn2
        have hsm : ∀ m, Calls Try.prog 8 #[.slice xa n xc, .slice la n lc] (W7.drewN m) fun e w' => e = .returned (.bool true) ∧ ∃ m', w' = (W7.drewN m).drewN m' := by
          intro m
          have := same_any (W7.drewN m) xa la xc lc ts hrx7 hrl7 (by omega)
          rw [htl] at this
          exact this
        have HSM := hide hsm
        clear hsm hrx7 hrl7
        go_quiet ((go_at_call 8; exact Calls.quiet_of (HSM.out _)))
        go_wp2_with fail
        go_ret
        exact ⟨rfl, ⟨hb7.os, hb7.tape, hb7.output, hb7.size, hb7.block⟩⟩
  · go_enter Try.func4, Try.ntmps4
    go_wp2_with (go_at_call 5; refine (speaks_any _).mono ?_; rintro e w1 ⟨rfl, hb1⟩)
    go_ret
    exact ⟨rfl, hb1⟩
end Go.Proofs.Ytajlibegalbbmaa
