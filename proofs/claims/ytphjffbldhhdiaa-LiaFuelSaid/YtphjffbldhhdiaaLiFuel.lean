/- The law LiaFuel: its walk. -/
import Derived.Test.YtphjffbldhhdiaaLiLead
import Derived.Test.YtphjffbldhhdiaaLiSpeaks
import Derived.Test.YtphjffbldhhdiaaLiSame
namespace Go.Proofs.Ytphjffbldhhdiaa
open Go.RowKit

theorem and_mask7 (n : Int) : bits .and .i64 n 127 = n % 128 := by
 have hm : (BitVec.ofInt 64 127).toNat = 2 ^ 7 - 1 := by decide
 have key : (BitVec.ofInt 64 n &&& BitVec.ofInt 64 127).toNat = (n % ((2 ^ 64 : Nat) : Int)).toNat % 2 ^ 7 := by
  rw [BitVec.toNat_and, BitVec.toNat_ofInt, hm, Nat.and_two_pow_sub_one_eq_mod]
 show IntKind.i64.wrap ((BitVec.ofInt 64 n &&& BitVec.ofInt 64 127).toNat : Nat) = n % 128
 rw [key, IntKind.wrap_i64]
 omega
set_option maxRecDepth 100000 in
set_option maxHeartbeats 12800000 in
theorem lfuel_walk (U : Int) (a : Option Addr) (cap : Nat) (rs : List LRow) (x y : Int) (w : World) (_ : Fit a rs.length cap) (hx : IRowsAt w a rs) :
  Calls Try.prog 5 #[.int .i64 U, .slice a rs.length cap, .int .i64 x, .int .i64 y] w fun e w' => e = .returned (.bool true) ∧ Below w.heap.size w w' := by
 obtain ⟨p, hp⟩ : ∃ p, bits .and .i64 x 127 = p := ⟨_, rfl⟩
 obtain ⟨q, hq⟩ : ∃ q, bits .and .i64 y 127 = q := ⟨_, rfl⟩
 have hp1 : 0 ≤ p ∧ p < 128 := by rw [← hp, and_mask7]; omega
 have hq1 : 0 ≤ q ∧ q < 128 := by rw [← hq, and_mask7]; omega
 have HX := hide hx
 clear hx
 go_enter Try.func5, Try.ntmps5
 go_wp2_with fail
 refine (ispeaks_any w).mono ?_
 rintro e w1 ⟨rfl, hb1⟩
 have hx1 := HX.out.below hb1 (Nat.le_refl _)
 go_wp2_with fail
 refine (igreat_any U a cap rs w1 hx1).mono ?_
 rintro e w2 ⟨hb2, g, rfl, hg⟩
 have sb2 := hb1.trans (hb2.mono hb1.size)
 cases g with
 | true =>
  clear hg
  go_wp2_with fail
  go_ret
  exact ⟨rfl, sb2⟩
 | false =>
  obtain ⟨h4, h10, hs⟩ := hg rfl
  clear hg
  have HS := hide hs
  have hx2 := hx1.below hb2 (Nat.le_refl _)
  clear hs
  go_wp2_with fail
  refine (irows_any a cap rs w2 hx2 (by omega)).mono ?_
  rintro e w3 ⟨hb3, g3, k3, hg3, rfl, hx3⟩
  have sb3 := sb2.trans (hb3.mono sb2.size)
  have hR : Calls Try.prog 12 #[.int .i64 U, .slice (some ⟨g3, 0, none⟩) rs.length k3] w3 fun e w' => e = .returned (.bool (rightI U rs)) ∧ Below w3.heap.size w3 w' := iright_any U _ k3 rs w3 hx3 (by omega) (fun r hr => Nat.le_trans (HS.out r hr).1 (by decide)) rfl
  have HRR := hide hR
  clear hR
  go_wp2_with fail
  refine HRR.out.mono ?_
  rintro e w4 ⟨rfl, hb4⟩
  clear HRR
  have sb4 := sb3.trans (hb4.mono sb3.size)
  have hx4 := (hx2.below hb3 (Nat.le_refl _)).below hb4 (Nat.le_refl _)
  cases hr : rightI U rs with
  | false =>
   clear hr
   go_wp2_with fail
   go_ret
   exact ⟨rfl, sb4⟩
  | true =>
   have hfair := great_fair h4 h10 HS.out hr
   have hxl : ∀ r ∈ rs, r.xs.length ≤ 1000000 := fun r hr => Nat.le_trans (HS.out r hr).1 (by decide)
   obtain ⟨S, hS⟩ : ∃ S, isysOf U.toNat rs = S := ⟨_, rfl⟩
   have HSV : Hid (∀ (f : Int) (w : World), IRowsAt w a rs → f ≤ 10000 → Calls Try.prog 10 #[.int .i64 U, .slice a rs.length cap, .int .i64 f] w fun e w' => Below w.heap.size w w' ∧ ∃ (vd us : Int) (va : Option Addr) (vc : Nat) (vals : List Int) (ra : Option Addr) (rc : Nat) (rows : List Nat), e = .returned (.tuple #[.agg #[.int .i64 vd, .slice va vals.length vc, .slice ra rows.length rc, .int .i64 us], .int .i64 0]) ∧ LOut S f vd us vals rows ∧ AnsAt w' va vc vals ra rows) := hide (fun f w hx hf => by
    rw [← hS]
    exact lsolve_at w hx (by omega) hxl hr hfair hf)
   have hm : S.m ≤ 10 := by rw [← hS]; exact h10
   have HFA : Hid (LFair S) := hide (by rw [← hS]; exact hfair)
   obtain ⟨lo, hlo⟩ : ∃ lo, min p q = lo := ⟨_, rfl⟩
   obtain ⟨hi, hhi⟩ : ∃ hi, max p q = hi := ⟨_, rfl⟩
   have hlh : lo ≤ hi := by omega
   have hlo1 : lo ≤ 10000 := by omega
   have hhi1 : hi ≤ 10000 := by omega
   clear hr hfair hxl hS hx1 hx2 hx3
   go_wp2_with fail
   refine (HSV.out lo w4 hx4 hlo1).mono ?_
   rintro e w5 ⟨hb5, v11, u11, va11, vc11, vs11, ra11, rc11, rr11, rfl, hO11, hA11⟩
   have sb5 := sb4.trans (hb5.mono sb4.size)
   obtain ⟨W11, hW11⟩ : ∃ W, w5.alloc (.cells #[.int .i64 v11, .slice va11 vs11.length vc11, .slice ra11 rr11.length rc11, .int .i64 u11] 28) = W := ⟨_, rfl⟩
   obtain ⟨g11, hg11⟩ : ∃ g, w5.heap.size = g := ⟨_, rfl⟩
   have b11 : Blk W11 g11 28 #[.int .i64 v11, .slice va11 vs11.length vc11, .slice ra11 rr11.length rc11, .int .i64 u11] := by rw [← hW11, ← hg11]; exact Blk.new _ _ _
   have sA11 : Below w5.heap.size w5 W11 := by rw [← hW11]; exact (Below.refl _ _).alloc (Nat.le_refl _) _
   replace hA11 := hA11.below sA11 (Nat.le_refl _)
   have HW11 := hide hW11
   have HG11 := hide hg11
   clear hW11 hg11
   go_upto_region 7 with (fail)
   rw [HW11.out, HG11.out]
   clear HW11 HG11
   have sb6 := sb5.trans (sA11.mono sb5.size)
   have hx6 := (hx4.below hb5 (Nat.le_refl _)).below sA11 (Nat.le_refl _)
   have HO11 := hide hO11
   clear hx4 hb5 sA11 sb5 sb4 hO11
   go_wp2_with fail
   refine (HSV.out hi W11 hx6 hhi1).mono ?_
   rintro e w7 ⟨hb7, v13, u13, va13, vc13, vs13, ra13, rc13, rr13, rfl, hO13, hA13⟩
   have sb7 := sb6.trans (hb7.mono sb6.size)
   replace b11 := b11.below hb7 b11.lt
   replace hA11 := hA11.below hb7 (Nat.le_refl _)
   obtain ⟨W13, hW13⟩ : ∃ W, w7.alloc (.cells #[.int .i64 v13, .slice va13 vs13.length vc13, .slice ra13 rr13.length rc13, .int .i64 u13] 28) = W := ⟨_, rfl⟩
   obtain ⟨g13, hg13⟩ : ∃ g, w7.heap.size = g := ⟨_, rfl⟩
   have b13 : Blk W13 g13 28 #[.int .i64 v13, .slice va13 vs13.length vc13, .slice ra13 rr13.length rc13, .int .i64 u13] := by rw [← hW13, ← hg13]; exact Blk.new _ _ _
   have sA13 : Below w7.heap.size w7 W13 := by rw [← hW13]; exact (Below.refl _ _).alloc (Nat.le_refl _) _
   replace hA13 := hA13.below sA13 (Nat.le_refl _)
   have HW13 := hide hW13
   have HG13 := hide hg13
   clear hW13 hg13
   go_upto_region 8 with (fail)
   rw [HW13.out, HG13.out]
   clear HW13 HG13
   have sb8 := sb7.trans (sA13.mono sb7.size)
   have hx8 := (hx6.below hb7 (Nat.le_refl _)).below sA13 (Nat.le_refl _)
   replace b11 := b11.below sA13 b11.lt
   replace hA11 := hA11.below sA13 (Nat.le_refl _)
   have HO13 := hide hO13
   clear hx6 hb7 sA13 sb7 sb6 hO13
   go_wp2_with fail
   refine (HSV.out lo W13 hx8 hlo1).mono ?_
   rintro e w9 ⟨hb9, v15, u15, va15, vc15, vs15, ra15, rc15, rr15, rfl, hO15, hA15⟩
   obtain ⟨rfl, rfl, rfl, rfl⟩ := HO11.out.same hO15
   have sb9 := sb8.trans (hb9.mono sb8.size)
   replace b11 := b11.below hb9 b11.lt
   replace hA11 := hA11.below hb9 (Nat.le_refl _)
   replace b13 := b13.below hb9 b13.lt
   replace hA13 := hA13.below hb9 (Nat.le_refl _)
   clear hO15
   obtain ⟨W15, hW15⟩ : ∃ W, w9.alloc (.cells #[.int .i64 v11, .slice va15 vs11.length vc15, .slice ra15 rr11.length rc15, .int .i64 u11] 28) = W := ⟨_, rfl⟩
   obtain ⟨g15, hg15⟩ : ∃ g, w9.heap.size = g := ⟨_, rfl⟩
   have b15 : Blk W15 g15 28 #[.int .i64 v11, .slice va15 vs11.length vc15, .slice ra15 rr11.length rc15, .int .i64 u11] := by rw [← hW15, ← hg15]; exact Blk.new _ _ _
   have sA15 : Below w9.heap.size w9 W15 := by rw [← hW15]; exact (Below.refl _ _).alloc (Nat.le_refl _) _
   replace hA15 := hA15.below sA15 (Nat.le_refl _)
   have HW15 := hide hW15
   have HG15 := hide hg15
   clear hW15 hg15
   go_upto_region 9 with (fail)
   rw [HW15.out, HG15.out]
   clear HW15 HG15
   have sb10 := sb9.trans (sA15.mono sb9.size)
   replace b11 := b11.below sA15 b11.lt
   replace hA11 := hA11.below sA15 (Nat.le_refl _)
   replace b13 := b13.below sA15 b13.lt
   replace hA13 := hA13.below sA15 (Nat.le_refl _)
   clear hb9 sA15 sb9 sb8 hx8
   have hlen : rr11.length ≤ 1000000 := Nat.le_trans HO11.out.rows_le (by omega)
   have hvl : vs11.length ≤ 4 := Nat.le_trans HO11.out.vals_le HFA.out.n
   have ev : (v11 != v11) = false := by simp
   have eu : (u11 != u11) = false := by simp
   obtain ⟨c0, c1, c2, c3, -⟩ := b11.c4
   obtain ⟨d0, d1, d2, d3, -⟩ := b15.c4
   have HSM := HO11.out.sm HFA.out hlo1
   have HSM := hide HSM
   go_wp2_with fail
   refine (sameints_any W15 hA11.rows hA15.rows hlen).mono ?_
   rintro e w11 ⟨rfl, hb11⟩
   have sb11 := sb10.trans (hb11.mono sb10.size)
   replace b11 := b11.below hb11 b11.lt
   replace hA11 := hA11.below hb11 (Nat.le_refl _)
   replace b13 := b13.below hb11 b13.lt
   replace hA13 := hA13.below hb11 (Nat.le_refl _)
   clear c0 c1 c2 c3 d0 d1 d2 d3 hb11 sb10 b15 hA15
   obtain ⟨c0, c1, c2, c3, -⟩ := b11.c4
   by_cases hv0 : v11 = 0
   ·have e0 : (v11 == 0) = true := by simp [hv0]
    clear HO11 HO13 HSM HSV HFA
    go_wp2_with fail
    go_ret
    exact ⟨rfl, sb11⟩
   ·have e0 : (v11 == 0) = false := by simp [hv0]
    obtain ⟨rfl, rfl, rfl, rfl⟩ := (HO11.out.more hv0 hlh).same HO13.out
    clear HO11 HO13 HSV HFA
    obtain ⟨d0, d1, d2, d3, -⟩ := b13.c4
    have eln : ((vs11.length : Int) != (vs11.length : Int)) = false := by simp
    go_wp2_with fail
    refine (sameints_any w11 hA11.rows hA13.rows hlen).mono ?_
    rintro e w12 ⟨rfl, hb12⟩
    have sb12 := sb11.trans (hb12.mono sb11.size)
    replace b11 := b11.below hb12 b11.lt
    replace hA11 := hA11.below hb12 (Nat.le_refl _)
    replace b13 := b13.below hb12 b13.lt
    replace hA13 := hA13.below hb12 (Nat.le_refl _)
    clear c0 c1 c2 c3 d0 d1 d2 d3 hb12 sb11
    obtain ⟨c0, c1, c2, c3, -⟩ := b11.c4
    obtain ⟨d0, d1, d2, d3, -⟩ := b13.c4
    have HA11 := hide hA11
    have HA13 := hide hA13
    clear hA11 hA13
    go_wp2_with fail
    go_loopg [128] vs11.length (fun k v128 wr => ∃ i : Nat, i + k = vs11.length ∧ v128 = .int .i64 (i : Int) ∧ Below w12.heap.size w12 wr)
    case atStart => exact ⟨0, by omega, rfl, Below.refl _ _⟩
    case round =>
     obtain ⟨i, hik, rfl, hB⟩ := hrel
     have sbr := sb12.trans (hB.mono sb12.size)
     rcases Nat.eq_zero_or_pos gk with h0 | h0
     ·subst h0
      obtain rfl : i = vs11.length := by omega
      go_wp2_with fail
      go_ret
      exact ⟨rfl, sbr⟩
     ·have hi1 : i < vs11.length := by omega
      have ei : (i : Int) < (vs11.length : Int) := by omega
      have c1r := cellB c1 hB (Nat.le_refl _)
      have d1r := cellB d1 hB (Nat.le_refl _)
      obtain ⟨gx, ox, rfl, hvx⟩ := HA11.out.vals (by omega)
      obtain ⟨gy, oy, rfl, hvy⟩ := HA13.out.vals (by omega)
      obtain ⟨xn, xa, xl, xk, x0, x1, hxz⟩ := (hvx i hi1).below hB (Nat.le_refl _)
      obtain ⟨yn, ya, yl, yk, y0, y1, hyz⟩ := (hvy i hi1).below hB (Nat.le_refl _)
      have hsm : Sm vs11[i] := sm_of (HSM.out _ (List.getElem_mem hi1))
      have HXZ := hide hxz
      have HYZ := hide hyz
      clear hvx hvy hxz hyz HA11 HA13 HSM
      go_upto_region 18 with (fail)
      refine wp_region_held_drew (S := fun w' => w'.cell? ⟨g11, 1, none⟩ = some (.slice (some ⟨gx, ox, none⟩) vs11.length vc11) ∧ w'.cell? ⟨g13, 1, none⟩ = some (.slice (some ⟨gy, oy, none⟩) vs11.length vc13) ∧ w'.cell? ⟨gx, ox + i * 2, none⟩ = some (.bool xn) ∧ w'.cell? ⟨gx, ox + i * 2 + 1, none⟩ = some (.slice xa xl xk) ∧ w'.cell? ⟨gy, oy + i * 2, none⟩ = some (.bool yn) ∧ w'.cell? ⟨gy, oy + i * 2 + 1, none⟩ = some (.slice ya yl yk) ∧ Below wr.heap.size wr w') (by kernel_rfl) (⟨c1r, d1r, x0, x1, y0, y1, (Below.refl _ _).drew⟩) (fun hS => ?_)
      refine tkH 0 ⟨some 131, .fieldAddr 28 (.tmp 11) 1, 0, "law.go:129", #[], none⟩ hS ?_
      try simp only [Act.put, sB, sC, sD]
      refine tkH 1 ⟨some 132, .load 25 (.tmp 131), 25, "law.go:129", #[eD 0], none⟩ hS ?_
      try simp only [Act.put, sB, sC, sD]
      refine tkH 2 ⟨some 133, .move (.tmp 17), 3, "law.go:129", #[], none⟩ hS ?_
      try simp only [Act.put, sB, sC, sD]
      refine tkH 3 ⟨some 134, .indexAddr 25 (.tmp 132) (.tmp 133), 0, "law.go:129", #[eD 1, eD 2], none⟩ hS ?_
      try simp only [Act.put, sB, sC, sD]
      refine tkH 4 ⟨some 135, .load 38 (.tmp 134), 38, "law.go:129", #[eD 3], none⟩ hS ?_
      try simp only [Act.put, sB, sC, sD]
      refine tkH 5 ⟨some 136, .fieldAddr 28 (.tmp 13) 1, 0, "law.go:129", #[], none⟩ hS ?_
      try simp only [Act.put, sB, sC, sD]
      refine tkH 6 ⟨some 137, .load 25 (.tmp 136), 25, "law.go:129", #[eD 5], none⟩ hS ?_
      try simp only [Act.put, sB, sC, sD]
      refine tkH 7 ⟨some 138, .move (.tmp 17), 3, "law.go:129", #[], none⟩ hS ?_
      try simp only [Act.put, sB, sC, sD]
      refine tkH 8 ⟨some 139, .indexAddr 25 (.tmp 137) (.tmp 138), 0, "law.go:129", #[eD 6, eD 7], none⟩ hS ?_
      try simp only [Act.put, sB, sC, sD]
      refine tkH 9 ⟨some 140, .load 38 (.tmp 139), 38, "law.go:129", #[eD 8], none⟩ hS ?_
      try simp only [Act.put, sB, sC, sD]
      refine wpAnyH_ready (rs := [10]) (by kernel_rfl) (by simp) ?_
      refine AllReadyH.cons (o := ⟨some 141, .call { callee := .value (.func 20), args := #[.tmp 135, .tmp 140], argTypes := #[38, 38] }, 4, "law.go:129", #[eD 4, eD 9], none⟩) rfl (fun K hK => ?_) AllReadyH.nil
      go_simp
      (go_at_call 20; (with_reducible refine (Same_any _ (HXZ.out.below hS.2.2.2.2.2.2 (Nat.le_refl _)) (HYZ.out.below hS.2.2.2.2.2.2 (Nat.le_refl _)) hsm).mono ?_); rintro e wN ⟨rfl, hb1⟩)
      rw [decide_eq_true rfl]
      go_wp2_with fail
      refine hK.out _ _ (⟨cellK hb1 hS.1, cellK hb1 hS.2.1, cellK hb1 hS.2.2.1, cellK hb1 hS.2.2.2.1, cellK hb1 hS.2.2.2.2.1, cellK hb1 hS.2.2.2.2.2.1, hS.2.2.2.2.2.2.trans (hb1.mono hS.2.2.2.2.2.2.size)⟩) (fun hS => ?_)
      clear hK K hb1
      try simp only [Act.put, sB, sC, sD]
      refine tkH 11 ⟨some 142, .unOp .not 4 (.tmp 141), 4, "law.go:129", #[eD 10], none⟩ hS ?_
      try simp only [Act.put, sB, sC, sD]
      refine wpAnyH_done (by kernel_rfl) ?_ _
      have hBN := hS.2.2.2.2.2.2
      have hBr := hB.trans (hBN.mono hB.size)
      clear hS x0 x1 y0 y1 c1r d1r
      go_wp2_with fail
      go_roundg (gk - 1)
      case measure => omega
      case rel => exact ⟨i + 1, by omega, by go_num, hBr⟩
end Go.Proofs.Ytphjffbldhhdiaa
