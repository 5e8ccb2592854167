/- collatorlaw05.speaks: by its contract. -/
import Derived.Test.YtajlibegalbbmaaDoorTText
namespace Go.Proofs.YtajlibegalbbmaaDoor
open Go.RowKit

/-- The document's example. -/
def exKids : List Tr := [.mk false (3, [120], 0) [], .mk true (0, [], 0) []]
def exTr : Tr := .mk true (0, [], 0) exKids
theorem ex_text : textT exTr = some [40, 120, 32, 40, 41, 41] := by decide +kernel
theorem ex_size : exTr.size = 5 := by simp [exTr, exKids, Tr.size, sizes]
abbrev exCells : Array Value := #[.bool false, .int .i64 3, .string ⟨#[120]⟩, .int .i64 0, .slice none 0 0, .bool true, .int .i64 0, .string ⟨#[]⟩, .int .i64 0, .slice none 0 0]

set_option maxRecDepth 100000 in
set_option maxHeartbeats 1600000 in
theorem tspeaks_any (w : World) (m : Int) (hmx : w.cell? ⟨0, 0, none⟩ = some (.int .i64 m)) :
    Calls Tryd.prog 13 #[] w fun e w' => e = .returned (.bool true) ∧ Below w.heap.size w w' := by
  obtain ⟨W, hW⟩ : ∃ W, (w.alloc (.cells exCells tT)).alloc (.cells #[.bool true, .int .i64 0, .string ⟨#[]⟩, .int .i64 0, .slice (some ⟨w.heap.size, 0, none⟩) 2 2] tT) = W := ⟨_, rfl⟩
  have hb : Below w.heap.size w W := by rw [← hW]; exact ((Below.refl _ _).alloc (Nat.le_refl _) _).alloc (by simp) _
  have b1 : Blk W w.heap.size tT exCells := by rw [← hW]; exact (Blk.new w _ _).alloc _
  have b2 : Blk W (w.heap.size + 1) tT #[.bool true, .int .i64 0, .string ⟨#[]⟩, .int .i64 0, .slice (some ⟨w.heap.size, 0, none⟩) 2 2] := by
    rw [← hW]
    have h := Blk.new (w.alloc (.cells exCells tT)) tT #[.bool true, .int .i64 0, .string ⟨#[]⟩, .int .i64 0, .slice (some ⟨w.heap.size, 0, none⟩) 2 2]
    rwa [World.size_alloc] at h
  have hs : W.heap.size = w.heap.size + 1 + 1 := by rw [← hW]; simp
  have HW := hide hW
  clear hW
  have hk : RepK W (fun _ => True) exKids (some ⟨w.heap.size, 0, none⟩) := by
    refine RepK.of (cs := exCells.toList) ?_ trivial (by omega) (fun j u hj => ?_)
    · simp only [exKids, RepL, Rep]
      exact ⟨_, _, (rfl : exCells.toList = trCells false (3, [120], 0) (.slice none 0 0) ++ (trCells true (0, [], 0) (.slice none 0 0) ++ [])), ⟨none, 0, rfl, Nat.le_refl _, ⟨Nat.zero_le _, fun _ => rfl⟩, by simp [RepK]⟩, _, _, rfl, ⟨none, 0, rfl, Nat.le_refl _, ⟨Nat.zero_le _, fun _ => rfl⟩, by simp [RepK]⟩, rfl⟩
    · rw [Nat.zero_add, b1.cell j]
      simpa using hj
  have hm := ck hb hmx
  have hcap : CapOk (some ⟨w.heap.size, 0, none⟩) 2 := ⟨by unfold maxLen; omega, fun h => by cases h⟩
  have hT := text_any exTr (some ⟨w.heap.size, 0, none⟩) 2 W m hm (by simp [SmallT, allT, allL, exTr, exKids]) (Nat.le_refl _) hcap hk (by rw [ex_size]; omega)
  rw [ex_text] at hT
  have hZ := fun (W' : World) (hb' : Below W.heap.size W W') => size_any exTr (some ⟨w.heap.size, 0, none⟩) 2 W' (Nat.le_refl _) hcap (hk.below hb') (by rw [ex_size]; omega)
  rw [ex_size] at hZ
  simp only [trV, exTr, exKids, Tr.l, Tr.tk, Tr.kids, List.length_cons, List.length_nil, wordRes] at hT hZ
  obtain ⟨c0, c1, c2, c3, c4⟩ := b2.c5
  go_enter Tryd.func13, Tryd.ntmps13
  go_upto_region 2 with (fail)
  rw [HW.out]
  clear HW hk hm hmx b1 b2 hs
  simp only [Option.getD_some, Option.isSome_some] at hT
  go_wp2_with (first
    | (go_at_call 18; refine hT.mono ?_; rintro e w1 ⟨rfl, hb1⟩; replace c0 := ck hb1 c0; replace c1 := ck hb1 c1; replace c2 := ck hb1 c2; replace c3 := ck hb1 c3; replace c4 := ck hb1 c4)
    | (go_at_call 20; refine (hZ _ hb1).mono ?_; rintro e w2 ⟨rfl, hb2⟩))
  go_ret
  exact ⟨rfl, hb.trans ((hb1.trans (hb2.mono hb1.size)).mono hb.size)⟩
end Go.Proofs.YtajlibegalbbmaaDoor
