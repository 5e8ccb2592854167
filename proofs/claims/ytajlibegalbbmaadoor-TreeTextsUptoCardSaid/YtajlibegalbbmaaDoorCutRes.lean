/- Slices cut at their end; what the readers tell. -/
import Derived.Test.YtajlibegalbbmaaDoorAsk
import Derived.Test.YtajlibegalbbmaaDoorCutLaw
namespace Go.Proofs.YtajlibegalbbmaaDoor
open Go.RowKit

theorem run_upto (w : World) (t n : Nat) (ht : Tryd.prog.underlying t = some (.slice (Tryd.prog.elem t))) (hs : (sizeOf (Tryd.prog.elem t)).run Tryd.prog w = .ok n w) (a : Option Addr) (len cap h : Nat) (y : Int) (hy : y = (h : Int)) (h2 : h ≤ cap) :
    (Instr.slice t (.slice a len cap) none (some (.int .i64 y)) none).run Tryd.prog w = .ok (.slice a h cap) w := by
  subst hy
  rw [run_slice_h (P := Tryd.prog) w t a len cap ht .i64 (h : Int) (by omega) (by omega), hs]
  simp only [Result.andThen, sliced]
  congr 1
  split
  · simp
  · cases a <;> simp [Addr.add]

theorem size_tok (w : World) : (sizeOf 23).run Tryd.prog w = .ok 3 w := by kernel_rfl
theorem Txt.take {w : World} {B : Nat} {ta : Option Addr} {bs : List UInt8} (h : Txt w B ta bs) (k : Nat) : Txt w B ta (bs.take k) := by
  intro hn
  obtain ⟨b, off, e, hb, hc⟩ := h (by simp at hn; omega)
  refine ⟨b, off, e, hb, fun i hi => ?_⟩
  have := hc i (by simp at hi; omega)
  simpa using this

theorem res_err {most : Int} {bs : List UInt8} {a : Nat} (h : ¬ max most 0 < (bs.length : Int)) (hl : lex bs = .error a) : resT most bs = (10, (a : Int), []) := by
  unfold resT; rw [if_neg h, hl]
theorem res_ok {most : Int} {bs : List UInt8} {l : List (Nat × List UInt8 × Nat)} (h : ¬ max most 0 < (bs.length : Int)) (hl : lex bs = .ok l) : resT most bs = (0, 0, l) := by
  unfold resT; rw [if_neg h, hl]

theorem and_mask (n : Int) : bits .and .i64 n 65535 = n % 65536 := by
  have hm : (BitVec.ofInt 64 65535).toNat = 2 ^ 16 - 1 := by decide
  have key : (BitVec.ofInt 64 n &&& BitVec.ofInt 64 65535).toNat = (n % ((2 ^ 64 : Nat) : Int)).toNat % 2 ^ 16 := by
    rw [BitVec.toNat_and, BitVec.toNat_ofInt, hm, Nat.and_two_pow_sub_one_eq_mod]
  show IntKind.i64.wrap ((BitVec.ofInt 64 n &&& BitVec.ofInt 64 65535).toNat : Nat) = n % 65536
  rw [key, IntKind.wrap_i64]
  omega

end Go.Proofs.YtajlibegalbbmaaDoor
