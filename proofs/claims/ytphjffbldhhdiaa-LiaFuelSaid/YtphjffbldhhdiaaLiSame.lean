/- collatorref06.SameInts, of the same integers. -/
import Derived.Test.YtphjffbldhhdiaaLiReasons
import Derived.Test.YtphjffbldhhdiaaSxRaw
namespace Go.Proofs.Ytphjffbldhhdiaa
open Go.RowKit

set_option maxRecDepth 100000 in
set_option maxHeartbeats 1600000 in
theorem sameints_any {a b : Option Addr} {ca cb : Nat} {ds : List Nat} (w : World) (ha : Dg .i64 w a ds) (hb : Dg .i64 w b ds) (hl : ds.length ≤ 1000000) :
  Calls Try.prog 19 #[.slice a ds.length ca, .slice b ds.length cb] w fun e w' => e = .returned (.bool true) ∧ Below w.heap.size w w' := by
 have HA := hide ha
 have HB := hide hb
 clear ha hb
 go_enter Try.func19, Try.ntmps19
 go_wp2_with fail
 go_loopg [5] ds.length (fun k v5 wr => ∃ j : Nat, j + k = ds.length ∧ v5 = .int .i64 (j : Int) ∧ Below w.heap.size w wr)
 case atStart => exact ⟨0, by omega, rfl, Below.refl _ _⟩
 case round =>
  obtain ⟨j, hjk, rfl, hB⟩ := hrel
  rcases Nat.eq_zero_or_pos gk with h0 | h0
  ·subst h0
   obtain hj : j = ds.length := by omega
   subst hj
   go_wp2_with fail
   go_ret
   exact ⟨rfl, hB⟩
  ·have hj : j < ds.length := by omega
   have ej : (j : Int) < (ds.length : Int) := by omega
   obtain ⟨g, o, rfl, hc⟩ := HA.out (by omega)
   obtain ⟨g', o', rfl, hc'⟩ := HB.out (by omega)
   have x0 := cellB (hc j hj) hB (Nat.le_refl _)
   have y0 := cellB (hc' j hj) hB (Nat.le_refl _)
   obtain ⟨d, hd⟩ : ∃ d, ds[j] = d := ⟨_, rfl⟩
   rw [hd] at x0 y0
   replace hc := hide hc
   replace hc' := hide hc'
   clear hd
   go_upto_region 6 with (fail)
   refine wp_region_held_drew (S := fun w' => w'.cell? ⟨g, o + j, none⟩ = some (.int .i64 (d : Int)) ∧ w'.cell? ⟨g', o' + j, none⟩ = some (.int .i64 (d : Int)) ∧ Below wr.heap.size wr w') (by kernel_rfl) (⟨x0, y0, (Below.refl _ _).drew⟩) (fun hS => ?_)
   refine tkH 0 ⟨some 17, .move (.tmp 0), 26, "ref.go:39", #[], none⟩ hS ?_
   try simp only [Act.put, sB, sC, sD]
   refine tkH 1 ⟨some 18, .move (.tmp 5), 3, "ref.go:39", #[], none⟩ hS ?_
   try simp only [Act.put, sB, sC, sD]
   refine tkH 2 ⟨some 19, .indexAddr 26 (.tmp 17) (.tmp 18), 0, "ref.go:39", #[eD 0, eD 1], none⟩ hS ?_
   try simp only [Act.put, sB, sC, sD]
   refine tkH 3 ⟨some 20, .load 3 (.tmp 19), 3, "ref.go:39", #[eD 2], none⟩ hS ?_
   try simp only [Act.put, sB, sC, sD]
   refine tkH 4 ⟨some 21, .move (.tmp 1), 26, "ref.go:39", #[], none⟩ hS ?_
   try simp only [Act.put, sB, sC, sD]
   refine tkH 5 ⟨some 22, .move (.tmp 5), 3, "ref.go:39", #[], none⟩ hS ?_
   try simp only [Act.put, sB, sC, sD]
   refine tkH 6 ⟨some 23, .indexAddr 26 (.tmp 21) (.tmp 22), 0, "ref.go:39", #[eD 4, eD 5], none⟩ hS ?_
   try simp only [Act.put, sB, sC, sD]
   refine tkH 7 ⟨some 24, .load 3 (.tmp 23), 3, "ref.go:39", #[eD 6], none⟩ hS ?_
   try simp only [Act.put, sB, sC, sD]
   refine tkH 8 ⟨some 25, .binOp .neq 3 (.tmp 20) (.tmp 24) 3, 4, "ref.go:39", #[eD 3, eD 7], none⟩ hS ?_
   try simp only [Act.put, sB, sC, sD]
   refine wpAnyH_done (by kernel_rfl) ?_ _
   have hBN : Below w.heap.size w _ := hB.trans (hS.2.2.mono hB.size)
   clear hS x0 y0
   go_wp2_with fail
   go_roundg (gk - 1)
   case measure => omega
   case rel => exact ⟨j + 1, by omega, by go_num, hBN⟩
end Go.Proofs.Ytphjffbldhhdiaa
