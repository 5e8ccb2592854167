/- The reference's Same at two rows of the same tokens. -/
import Derived.Test.YtajlibegalbbmaaDoorRefRead
namespace Go.Proofs.YtajlibegalbbmaaDoor
open Go.RowKit

/-- A slice of tokens reads as these tokens. -/
def TokRow (w : World) (a : Option Addr) (toks : List (Nat × List UInt8 × Nat)) : Prop :=
  0 < toks.length → ∃ b off, a = some ⟨b, off, none⟩ ∧ ∀ i (h : i < toks.length), w.cell? ⟨b, off + i * 3, none⟩ = some (.int .i64 (toks[i].1 : Int)) ∧ w.cell? ⟨b, off + i * 3 + 1, none⟩ = some (.string ⟨toks[i].2.1.toArray⟩) ∧ w.cell? ⟨b, off + i * 3 + 2, none⟩ = some (.int .i64 (toks[i].2.2 : Int))

theorem tokCells_at : ∀ (l : List (Nat × List UInt8 × Nat)) (i : Nat) (h : i < l.length), (tokCells l)[i * 3]? = some (.int .i64 (l[i].1 : Int)) ∧ (tokCells l)[i * 3 + 1]? = some (.string ⟨l[i].2.1.toArray⟩) ∧ (tokCells l)[i * 3 + 2]? = some (.int .i64 (l[i].2.2 : Int))
  | x :: l, 0, _ => by simp [tokCells]
  | x :: l, i + 1, h => by
    have := tokCells_at l i (by simpa using h)
    have e : tokCells (x :: l) = .int .i64 (x.1 : Int) :: .string ⟨x.2.1.toArray⟩ :: .int .i64 (x.2.2 : Int) :: tokCells l := by simp [tokCells]
    rw [e, show (i + 1) * 3 = i * 3 + 1 + 1 + 1 by omega]
    simpa using this

theorem row_of_own {w : World} {base : Nat} {v : Value} {a : Option Addr} {c : Nat} {toks : List (Nat × List UInt8 × Nat)} (h : w.ownsRow base 23 3 v toks.length (tokCells toks)) (hv : v = .slice a toks.length c) : TokRow w a toks := by
  subst hv
  intro hn
  rcases h.2 with ⟨_, h0⟩ | ⟨g, c', cur, hv, _⟩
  · omega
  · injection hv with hv
    subst hv
    refine ⟨g, 0, rfl, fun i hi => ?_⟩
    have ha := tokCells_at toks i hi
    have key : ∀ j u, (tokCells toks)[j]? = some u → w.cell? ⟨g, 0 + j, none⟩ = some u := by
      intro j u hj
      have := h.cells (g := g) rfl j u hj
      have e : (⟨g, 0, none⟩ : Addr).add j = ⟨g, 0 + j, none⟩ := by unfold Addr.add; split <;> simp_all
      rw [e] at this
      exact this
    exact ⟨key _ _ ha.1, key _ _ ha.2.1, key _ _ ha.2.2⟩

theorem TokRow.take {w : World} {a : Option Addr} {toks : List (Nat × List UInt8 × Nat)} (h : TokRow w a toks) (n : Nat) : TokRow w a (toks.take n) := by
  intro hn
  obtain ⟨b, off, e, hc⟩ := h (by simp at hn; omega)
  refine ⟨b, off, e, fun i hi => ?_⟩
  have := hc i (by simp at hi; omega)
  simpa using this

def SameRel (w : World) (n : Nat) (k : Nat) (v : Value) (wr : World) : Prop :=
  ∃ (i m : Nat), i + k = n ∧ v = .int .i64 (i : Int) ∧ wr = w.drewN m

set_option maxHeartbeats 800000 in
theorem same_any (w : World) (a a' : Option Addr) (c c' : Nat) (toks : List (Nat × List UInt8 × Nat)) (h : TokRow w a toks) (h' : TokRow w a' toks) (hm : toks.length ≤ 9223372036854775807) :
    Calls Tryd.prog 12 #[.slice a toks.length c, .slice a' toks.length c'] w fun e w' => e = .returned (.bool true) ∧ ∃ m, w' = w.drewN m := by
  go_enter Tryd.func12, Tryd.ntmps12
  go_wp2_with fail
  go_loopg [5] toks.length (fun k v wr => SameRel w toks.length k v wr)
  case atStart => exact ⟨0, 0, by omega, rfl, rfl⟩
  case round =>
    obtain ⟨i, m, hk, rfl, rfl⟩ := hrel
    have HK := hide hk
    rcases Nat.lt_or_ge i toks.length with hi | hi
    · obtain ⟨b, off, rfl, hc⟩ := h (by omega)
      obtain ⟨b', off', rfl, hc'⟩ := h' (by omega)
      obtain ⟨x0, x1, x2⟩ := hc i hi
      obtain ⟨y0, y1, y2⟩ := hc' i hi
      generalize toks[i] = t at x0 x1 x2 y0 y1 y2
      obtain ⟨tk, tt, ta⟩ := t
      simp only at x0 x1 x2 y0 y1 y2
      clear hk
      go_wp2_with fail
      go_quiet (fail)
      go_wp2_with fail
      have hk := HK.out
      go_roundg (gk - 1)
      case measure => omega
      case rel => exact ⟨i + 1, _, by omega, by go_num, rfl⟩
    · clear hk
      go_wp2_with fail
      go_ret
      exact ⟨rfl, _, rfl⟩
end Go.Proofs.YtajlibegalbbmaaDoor
