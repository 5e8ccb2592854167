/- The walks of the laws TreeReads and TreeJoins. -/
import Derived.Test.YtajlibegalbbmaaDoorTSpeaks
import Derived.Test.YtajlibegalbbmaaDoorRTRead
namespace Go.Proofs.YtajlibegalbbmaaDoor
open Go.RowKit

/-- What both readers tell. -/
def resTr : Except (Int × Int) (List Tr) → Int × Int × List Tr
  | .error x => (x.1, x.2, [])
  | .ok ts => (0, 0, ts)
theorem Blk.c2' {w : World} {g : Nat} {t : TypeId} {p q : Value} (h : Blk w g t #[p, q]) : w.cell? ⟨g, 0, none⟩ = some p ∧ w.cell? ⟨g, 1, none⟩ = some q ∧ True := ⟨h.cell 0, h.cell 1, trivial⟩
theorem TReadPost.sum {w w' : World} {r : Except (Int × Int) (List Tr)} {e : Ending} (h : TReadPost w r e w') : Below w.heap.size w w' ∧ ∃ ka cap, e = .returned (.tuple #[.slice ka (resTr r).2.2.length cap, faultAgg (resTr r).1 (resTr r).2.1]) ∧ (resTr r).2.2.length ≤ cap ∧ CapOk ka cap ∧ RepK w' (fun b => w.heap.size ≤ b) (resTr r).2.2 ka := by
  obtain ⟨hb, h⟩ := h
  cases r with
  | error x => exact ⟨hb, none, 0, h, Nat.le_refl _, ⟨Nat.zero_le _, fun _ => rfl⟩, by simp [resTr, RepK]⟩
  | ok ts =>
    obtain ⟨v, rfl, ka, cap, rfl, h1, h2, h3⟩ := h
    exact ⟨hb, ka, cap, rfl, h1, h2, h3⟩
theorem RTReadPost.sum {w w' : World} {r : Except (Int × Int) (List Tr)} {e : Ending} (h : RTReadPost w r e w') : Below w.heap.size w w' ∧ ∃ ka cap, e = .returned (.tuple #[.slice ka (resTr r).2.2.length cap, .int .i64 (resTr r).1, .int .i64 (resTr r).2.1]) ∧ (resTr r).2.2.length ≤ cap ∧ CapOk ka cap ∧ RepK w' (fun b => w.heap.size ≤ b) (resTr r).2.2 ka := by
  obtain ⟨hb, h⟩ := h
  cases r with
  | error x => exact ⟨hb, none, 0, h, Nat.le_refl _, ⟨Nat.zero_le _, fun _ => rfl⟩, by simp [resTr, RepK]⟩
  | ok ts =>
    obtain ⟨v, rfl, ka, cap, rfl, h1, h2, h3⟩ := h
    exact ⟨hb, ka, cap, rfl, h1, h2, h3⟩

set_option maxRecDepth 100000 in
set_option maxHeartbeats 1600000 in
theorem treads_walk (a0 : Option Addr) (cap0 : Nat) (ts : List Tok) (deep : Int) (w : World) (m : Int) (hm : w.cell? ⟨0, 0, none⟩ = some (.int .i64 m)) (ht : TokIn w w.heap.size a0 ts) (hts : ts.length ≤ 9223372036854775807) :
    Calls Tryd.prog 5 #[.slice a0 ts.length cap0, .int .i64 deep] w fun e w' => e = .returned (.bool true) ∧ Below w.heap.size w w' := by
  go_enter Tryd.func5, Tryd.ntmps5
  go_wp2_with fail
  refine (tspeaks_any _ m hm).mono ?_
  rintro e w1 ⟨rfl, hb1⟩
  by_cases hl : ts.length ≤ 3000
  · have e1 : decide ((3000 : Int) < (ts.length : Int)) = false := decide_eq_false (by omega)
    have ht1 := ht.keep hb1 hb1.size
    clear ht hts
    go_wp2_with fail
    refine (tReads_any w1 a0 cap0 ts deep ht1 (by omega)).mono ?_
    intro e w2 h2
    obtain ⟨hb2, ka, cap, rfl, g1, g2, g3⟩ := h2.sum
    clear h2
    have ht2 := ht1.keep hb2 hb2.size
    generalize hR : resTr (treesT deep ts) = R at g1 g3 ⊢
    obtain ⟨c, a, l⟩ := R
    simp only at g1 g3 ⊢
    unfold faultAgg
    obtain ⟨W, hW⟩ : ∃ W, w2.alloc (.cells #[.int .i64 c, .int .i64 a] 31) = W := ⟨_, rfl⟩
    have hb3 : Below w2.heap.size w2 W := by rw [← hW]; exact (Below.refl _ _).alloc (Nat.le_refl _) _
    have b3 : Blk W w2.heap.size 31 #[.int .i64 c, .int .i64 a] := by rw [← hW]; exact Blk.new _ _ _
    have HW := hide hW
    clear hW
    go_upto_region 6 with (fail)
    rw [HW.out]
    clear HW
    have ht3 := ht2.keep hb3 hb3.size
    have k3 := (g3.any).below hb3
    go_wp2_with (go_at_call 15; refine (rtRead_any a0 cap0 ts deep W ht3 (by omega)).mono ?_)
    intro e w3 h3
    obtain ⟨hb4, ka', cap', rfl, g1', g2', g3'⟩ := h3.sum
    clear h3
    rw [hR] at g1' g3' ⊢
    simp only at g1' g3' ⊢
    have k4 := k3.below hb4
    have b4 := b3.below hb4 b3.lt
    obtain ⟨c0, c1, -⟩ := b4.c2'
    have hsm := same_rows true l l ka ka' cap cap' w3 (sameL_refl true l) g1 g2 k4 g3'.any
    clear b3 k3 k4 g3 g3' hR ht1 ht2 ht3
    go_wp2_with (go_at_call 16; refine hsm.mono ?_; rintro e w4 ⟨rfl, hb5⟩)
    go_ret
    exact ⟨rfl, hb1.trans ((((hb2.trans (hb3.mono hb2.size)).trans (hb4.mono (Nat.le_trans hb2.size hb3.size))).trans (hb5.mono (Nat.le_trans hb2.size (Nat.le_trans hb3.size hb4.size)))).mono hb1.size)⟩
  · have e1 : decide ((3000 : Int) < (ts.length : Int)) = true := decide_eq_true (by omega)
    go_wp2_with fail
    go_ret
    exact ⟨rfl, hb1⟩
end Go.Proofs.YtajlibegalbbmaaDoor
