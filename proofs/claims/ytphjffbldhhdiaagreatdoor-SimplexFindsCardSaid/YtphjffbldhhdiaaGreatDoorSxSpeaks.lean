/- collatorlaw17.speaks: by its contract. -/
import Derived.Test.YtphjffbldhhdiaaGreatDoorSxLaw
import Derived.Test.YtphjffbldhhdiaaGreatDoorSxAns
namespace Go.Proofs.YtphjffbldhhdiaaGreatDoor
open Go.RowKit

/-- The document's example: x ≤ 1, -x ≤ -2. -/
def spS : Sys where
  n := 1
  m := 2
  A := fun i _ => if i = 0 then 1 else -1
  most := fun i => if i = 0 then 1 else -2
theorem Qn.small (z : Int) (h : z.natAbs < BB) : Qn 1 (z : Rat) := Qn.int (dg_len BB2 (by simpa using h)) (Nat.le_refl _)
theorem spS_fair : Fair spS 1 1 where
  n := by decide
  m := by decide
  sLe := by decide
  MLe := by decide
  A := fun i c _ _ => by
    show Qn 1 (if i = 0 then 1 else -1)
    split
    · exact Qn.one
    · exact Qn.neg Qn.one
  most := fun i _ => by
    show Qn 1 (if i = 0 then 1 else -2)
    split
    · exact Qn.one
    · exact Qn.small (-2) (by decide)
theorem sp_never {y : Nat → Rat} (h : spS.Never y) (h1 : ∃ i, i < spS.m ∧ y i = 1) : y 0 = 1 := by
  have hz := h.zero 0 (by decide)
  have e : (sumR 2 fun i => y i * spS.A i 0) = y 0 * 1 + y 1 * (-1) := by
    simp only [sumR]
    show 0 + y 0 * 1 + y 1 * (-1) = _
    grind
  have hz' : (sumR 2 fun i => y i * spS.A i 0) = 0 := hz
  rw [e] at hz'
  obtain ⟨i, hi, hy⟩ := h1
  have hi' : i < 2 := hi
  rcases (show i = 0 ∨ i = 1 by omega) with rfl | rfl
  · exact hy
  · grind
theorem sp_nofit {x : Nat → Rat} (h : spS.Fits x) : False := by
  have h0 := h 0 (by decide)
  have h1 := h 1 (by decide)
  have e0 : (sumR 1 fun c => spS.A 0 c * x c) = x 0 := by simp only [sumR]; show 0 + 1 * x 0 = _; grind
  have e1 : (sumR 1 fun c => spS.A 1 c * x c) = -x 0 := by simp only [sumR]; show 0 + (-1) * x 0 = _; grind
  have h0' : (sumR 1 fun c => spS.A 0 c * x c) ≤ 1 := h0
  have h1' : (sumR 1 fun c => spS.A 1 c * x c) ≤ -2 := h1
  rw [e0] at h0'
  rw [e1] at h1'
  grind
theorem dec_one : decQ 1 = [49] := by
  show decZ (1 : Int) ++ (if (1 : Nat) = 1 then [] else 47 :: decZ ((1 : Nat) : Int)) = [49]
  rw [if_pos rfl, List.append_nil]
  simp [decZ, Lib.decDigits_one (show 1 < 10 by decide)]
theorem FAt.at {w : World} {g o : Nat} {q : Rat} {t : TypeId} {cs : Array Value} {n m : Bool} {a b : Option Addr} {l k i j : Nat} (h : Blk w g t cs) (h0 : cs[o]? = some (.bool n)) (h1 : cs[o + 1]? = some (.slice a l k)) (h2 : cs[o + 2]? = some (.bool m)) (h3 : cs[o + 3]? = some (.slice b i j)) (hq : FracV w (.agg #[.bool n, .slice a l k, .bool m, .slice b i j]) q) : FAt w g o q :=
  ⟨n, a, l, k, m, b, i, j, (h.cell _).trans h0, (h.cell _).trans h1, (h.cell _).trans h2, (h.cell _).trans h3, hq⟩

set_option maxRecDepth 100000 in
set_option maxHeartbeats 6400000 in
theorem spx_any (w : World) (ht : Tab w) : Calls Tryz.prog 6 #[] w fun e w' => e = .returned (.bool true) ∧ Below w.heap.size w w' := by
  have HT := hide ht
  clear ht
  go_enter Tryz.func6, Tryz.ntmps6
  go_wp2_with fail
  refine (of_any 1 w (by decide) (by decide)).mono ?_
  rintro e w1 ⟨r1, rfl, h1, hb1⟩
  obtain ⟨an, aa, al, ak, am, ab, ai, aj, rfl, -, -⟩ := FracV.parts h1
  obtain ⟨gA, hgA⟩ : ∃ g, w1.heap.size = g := ⟨_, rfl⟩
  obtain ⟨v1, hv1⟩ : ∃ v1, w1.alloc (.cells #[.bool an, .slice aa al ak, .bool am, .slice ab ai aj] 39) = v1 := ⟨_, rfl⟩
  have bA : Blk v1 gA 39 #[.bool an, .slice aa al ak, .bool am, .slice ab ai aj] := by rw [← hv1, ← hgA]; exact Blk.new _ _ _
  have sA : Below w1.heap.size w1 v1 := by rw [← hv1]; exact (Below.refl _ _).alloc (Nat.le_refl _) _
  have fA : FAt v1 gA 0 1 := FAt.of bA (h1.below sA (Nat.le_refl _))
  have sb1 : Below w.heap.size w v1 := hb1.trans (sA.mono hb1.size)
  go_wp2_with fail
  refine (of_any 1 v1 (by decide) (by decide)).mono ?_
  rintro e w2 ⟨r2, rfl, h2, hb2⟩
  obtain ⟨bn, ba, bl, bk, bm, bb, bi, bj, rfl, -, -⟩ := FracV.parts h2
  replace fA := fA.below hb2 (Nat.le_refl _)
  have sb2 := sb1.trans (hb2.mono sb1.size)
  clear hv1 hgA bA sA sb1 hb1 hb2 h1
  go_wp2_with fail
  refine (of_any (-1) w2 (by decide) (by decide)).mono ?_
  rintro e w3 ⟨r3, rfl, h3, hb3⟩
  obtain ⟨cn, ca, cl, ck, cm, cb, ci, cj, rfl, -, -⟩ := FracV.parts h3
  replace fA := fA.below hb3 (Nat.le_refl _)
  replace h2 := h2.below hb3 (Nat.le_refl _)
  have sb3 := sb2.trans (hb3.mono sb2.size)
  obtain ⟨gB, hgB⟩ : ∃ g, w3.heap.size = g := ⟨_, rfl⟩
  obtain ⟨v3, hv3⟩ : ∃ v3, w3.alloc (.cells #[.bool cn, .slice ca cl ck, .bool cm, .slice cb ci cj] 39) = v3 := ⟨_, rfl⟩
  have bB : Blk v3 gB 39 #[.bool cn, .slice ca cl ck, .bool cm, .slice cb ci cj] := by rw [← hv3, ← hgB]; exact Blk.new _ _ _
  have sB : Below w3.heap.size w3 v3 := by rw [← hv3]; exact (Below.refl _ _).alloc (Nat.le_refl _) _
  have fB : FAt v3 gB 0 (-1) := FAt.of bB (h3.below sB (Nat.le_refl _))
  replace fA := fA.below sB (Nat.le_refl _)
  replace h2 := h2.below sB (Nat.le_refl _)
  have sb4 := sb3.trans (sB.mono sb3.size)
  go_wp2_with fail
  refine (of_any (-2) v3 (by decide) (by decide)).mono ?_
  rintro e w4 ⟨r4, rfl, h4, hb4⟩
  obtain ⟨dn, da, dl, dk, dm, db, di, dj, rfl, -, -⟩ := FracV.parts h4
  replace fA := fA.below hb4 (Nat.le_refl _)
  replace fB := fB.below hb4 (Nat.le_refl _)
  replace h2 := h2.below hb4 (Nat.le_refl _)
  have sb5 := sb4.trans (hb4.mono sb4.size)
  clear hv3 hgB bB sB sb2 sb3 sb4 hb3 hb4 h3
  obtain ⟨gR, hgR⟩ : ∃ g, w4.heap.size = g := ⟨_, rfl⟩
  obtain ⟨v4, hv4⟩ : ∃ v4, w4.alloc (.cells #[.slice (some ⟨gA, 0, none⟩) 1 1, .bool bn, .slice ba bl bk, .bool bm, .slice bb bi bj, .slice (some ⟨gB, 0, none⟩) 1 1, .bool dn, .slice da dl dk, .bool dm, .slice db di dj] 43) = v4 := ⟨_, rfl⟩
  have bR : Blk v4 gR 43 #[.slice (some ⟨gA, 0, none⟩) 1 1, .bool bn, .slice ba bl bk, .bool bm, .slice bb bi bj, .slice (some ⟨gB, 0, none⟩) 1 1, .bool dn, .slice da dl dk, .bool dm, .slice db di dj] := by rw [← hv4, ← hgR]; exact Blk.new _ _ _
  have sR : Below w4.heap.size w4 v4 := by rw [← hv4]; exact (Below.refl _ _).alloc (Nat.le_refl _) _
  replace fA := fA.below sR (Nat.le_refl _)
  replace fB := fB.below sR (Nat.le_refl _)
  replace h2 := h2.below sR (Nat.le_refl _)
  replace h4 := h4.below sR (Nat.le_refl _)
  have sb6 := sb5.trans (sR.mono sb5.size)
  have hRV : RowsV v4 gR 0 spS := by
    intro i hi
    have hi' : i < 2 := hi
    rcases (show i = 0 ∨ i = 1 by omega) with rfl | rfl
    · refine ⟨some ⟨gA, 0, none⟩, 1, bR.cell 0, ⟨Nat.le_refl _, fun h => by cases h⟩, fun _ => ⟨gA, 0, rfl, fun c hc => ?_⟩, FAt.at bR rfl rfl rfl rfl h2⟩
      have hc' : c < 1 := hc
      obtain rfl : c = 0 := by omega
      exact fA
    · refine ⟨some ⟨gB, 0, none⟩, 1, bR.cell 5, ⟨Nat.le_refl _, fun h => by cases h⟩, fun _ => ⟨gB, 0, rfl, fun c hc => ?_⟩, FAt.at bR rfl rfl rfl rfl h4⟩
      have hc' : c < 1 := hc
      obtain rfl : c = 0 := by omega
      exact fB
  have hS : Calls Tryz.prog 8 #[.int .i64 1, .slice (some ⟨gR, 0, none⟩) 2 2] v4 (SolveQ v4 spS _ _) := solve_q (cap := 2) v4 spS_fair (Nat.le_refl _) (Nat.le_refl _) (fun _ => rfl) hRV
  have HS := hide hS
  have HV4 := hide hv4
  have HGR := hide hgR
  clear hS hv4 hgR bR sR fA fB h2 h4 hRV sb5
  go_wp2_with fail
  rw [HV4.out, HGR.out]
  refine HS.out.mono ?_
  rintro e w5 ⟨hb5, v, rfl, ⟨x, hx, _⟩ | ⟨y, hy, _, _, hone, g, _, rfl, hat⟩⟩
  · exact (sp_nofit hx).elim
  · have f0 : FAt w5 g 0 1 := by
      have h := hat 0 (by decide)
      rw [sp_never hy hone] at h
      exact h
    have sb7 := sb6.trans (hb5.mono sb6.size)
    obtain ⟨v5, hv5⟩ : ∃ v5, w5.alloc (.cells #[.slice none 0 0, .slice (some ⟨g, 0, none⟩) 2 2] 27) = v5 := ⟨_, rfl⟩
    obtain ⟨gX, hgX⟩ : ∃ gX, w5.heap.size = gX := ⟨_, rfl⟩
    have bX : Blk v5 gX 27 #[.slice none 0 0, .slice (some ⟨g, 0, none⟩) 2 2] := by rw [← hv5, ← hgX]; exact Blk.new _ _ _
    have sX : Below w5.heap.size w5 v5 := by rw [← hv5]; exact (Below.refl _ _).alloc (Nat.le_refl _) _
    replace f0 := f0.below sX (Nat.le_refl _)
    have sb8 := sb7.trans (sX.mono sb7.size)
    obtain ⟨xn, xa, xl, xk, xm, xb, xi, xj, x0, x1, x2, x3, hq⟩ := f0.box
    obtain ⟨c0, c1, -⟩ := bX.c2
    have HV5 := hide hv5
    have HGX := hide hgX
    have HTX := hide (HT.out.atBelow sb8 (Nat.le_refl _))
    have e0 : spS.m = 2 := rfl
    rw [e0]
    clear hv5 hgX bX sX hat hone hy e0 sb7 sb6 hb5 HS HV4 HGR
    go_upto_region 2 with (fail)
    rw [HV5.out, HGX.out]
    clear HV5 HGX
    go_wp2_with fail
    refine (FText_any v5 hq (Qn.mono Qn.one (by decide)) HTX.out).mono ?_
    rintro e w6 ⟨rfl, hb6⟩
    have sb9 := sb8.trans (hb6.mono sb8.size)
    rw [dec_one]
    clear x0 x1 x2 x3 c0 c1
    go_wp2_with fail
    go_ret
    exact ⟨rfl, sb9⟩
end Go.Proofs.YtphjffbldhhdiaaGreatDoor
