/- The law LiaFinds: its walk. -/
import Derived.Test.YtphjffbldhhdiaaLiNew
import Derived.Test.YtphjffbldhhdiaaLiSpeaks
namespace Go.Proofs.Ytphjffbldhhdiaa
open Go.RowKit

theorem and_mask16 (n : Int) : bits .and .i64 n 65535 = n % 65536 := by
 have hm : (BitVec.ofInt 64 65535).toNat = 2 ^ 16 - 1 := by decide
 have key : (BitVec.ofInt 64 n &&& BitVec.ofInt 64 65535).toNat = (n % ((2 ^ 64 : Nat) : Int)).toNat % 2 ^ 16 := by
  rw [BitVec.toNat_and, BitVec.toNat_ofInt, hm, Nat.and_two_pow_sub_one_eq_mod]
 show IntKind.i64.wrap ((BitVec.ofInt 64 n &&& BitVec.ofInt 64 65535).toNat : Nat) = n % 65536
 rw [key, IntKind.wrap_i64]
 omega
def tightZ (xs : List Raw) (rs : List LRow) (n i : Nat) : Int := sumI n fun c => timesZ rs i c * valZ xs c
theorem finds_tight {xs : List Raw} {rs ls : List LRow} {W : World} {n : Nat} (h : NewL W rs ls rs.length (tightZ xs rs n)) {f vd us : Int} {vs : List Int} {rw : List Nat} (ho : LOut (isysOf n ls) f vd us vs rw) : vd ≠ 2 := fun hv => by
 refine ho.unsat_all hv (valZ xs) (fun i hi => row_tight ?_)
 have hi2 : i < rs.length := by have := h.len; have hi' : i < ls.length := hi; omega
 have e : (isysOf n ls).most i = tightZ xs rs n i := h.mosts hi2
 rw [e]
 unfold tightZ
 rw [sumI_cast]
 refine sumR_congr fun c hc => ?_
 have e2 : (isysOf n ls).A i c = timesZ rs i c := h.times i c
 rw [e2, Rat.intCast_mul]
theorem finds_less {rs : List LRow} {n k : Nat} (hk : k ≤ rs.length) {f f' vd vd' us us' : Int} {vs vs' : List Int} {rw rw' : List Nat} (h : LOut (isysOf n rs) f vd us vs rw) (h' : LOut (isysOf n (rs.take k)) f' vd' us' vs' rw') (hv : vd = 1) : vd' ≠ 2 := fun hv' => by
 obtain ⟨z, hz, _⟩ := h.sat hv
 refine h'.unsat_all hv' z (fun i hi => ?_)
 have hi' : i < (rs.take k).length := hi
 rw [List.length_take] at hi'
 exact (take_row (by omega)).2 (hz i (by show i < rs.length; omega))
theorem sumI_len {f : Nat → Int} (h : ∀ c, len (f c) ≤ 2) : ∀ n, len (sumI n f) ≤ 2 + n
 | 0 => by show len 0 ≤ _; exact Nat.zero_le _
 | n + 1 => by
  have h1 := len_add (sumI n f) (f n)
  have h2 := sumI_len h n
  have h3 := h n
  show len (sumI n f + f n) ≤ 2 + (n + 1)
  omega
set_option maxRecDepth 100000 in
set_option maxHeartbeats 12800000 in
theorem lfinds_walk (a0 : Option Addr) (c0 : Nat) (x0 : List Raw) (a1 : Option Addr) (c1 : Nat) (rs : List LRow) (fu cut : Int) (w : World) (hf0 : Fit a0 x0.length c0) (hw0 : IListAt w a0 x0) (hf1 : Fit a1 rs.length c1) (hw1 : IRowsAt w a1 rs) :
  Calls Try.prog 4 #[.slice a0 x0.length c0, .slice a1 rs.length c1, .int .i64 fu, .int .i64 cut] w fun e w' => e = .returned (.bool true) ∧ Below w.heap.size w w' := by
 have HX := hide hw1
 have HV := hide hw0
 have HF0 := hide hf0
 have HF1 := hide hf1
 clear hw1 hw0 hf0 hf1
 go_enter Try.func4, Try.ntmps4
 go_wp2_with fail
 refine (ispeaks_any w).mono ?_
 rintro e w1 ⟨rfl, hb1⟩
 have hx1 := HX.out.below hb1 (Nat.le_refl _)
 go_wp2_with fail
 refine (igreat_any (x0.length : Int) a1 c1 rs w1 hx1).mono ?_
 rintro e w2 ⟨hb2, g, rfl, hg⟩
 have sb2 := hb1.trans (hb2.mono hb1.size)
 cases g with
 | true =>
  clear hg
  go_wp2_with fail
  go_ret
  exact ⟨rfl, sb2⟩
 | false =>
  obtain ⟨h4, h10, hs⟩ := hg rfl
  have HS := hide hs
  have hx2 := hx1.below hb2 (Nat.le_refl _)
  clear hg hs
  rcases Int.lt_or_le 200 fu with hfu | hfu
  ·have e1 : decide (200 < fu) = true := decide_eq_true hfu
   go_wp2_with fail
   go_ret
   exact ⟨rfl, sb2⟩
  have e1 : decide (200 < fu) = false := decide_eq_false (by omega)
  have e1' : ¬200 < fu := by omega
  go_wp2_with fail
  refine (irows_any a1 c1 rs w2 hx2 (by omega)).mono ?_
  rintro e w3 ⟨hb3, g3, k3, hg3, rfl, hx3⟩
  have sb3 := sb2.trans (hb3.mono sb2.size)
  have hR : Calls Try.prog 12 #[.int .i64 (x0.length : Int), .slice (some ⟨g3, 0, none⟩) rs.length k3] w3 fun e w' => e = .returned (.bool (rightI (x0.length : Int) rs)) ∧ Below w3.heap.size w3 w' := iright_any _ _ k3 rs w3 hx3 (by omega) (fun r hr => Nat.le_trans (HS.out r hr).1 (by decide)) rfl
  have HRR := hide hR
  clear hR
  go_wp2_with fail
  refine HRR.out.mono ?_
  rintro e w4 ⟨rfl, hb4⟩
  clear HRR
  have sb4 := sb3.trans (hb4.mono sb3.size)
  have hx4 := (hx2.below hb3 (Nat.le_refl _)).below hb4 (Nat.le_refl _)
  cases hr : rightI (x0.length : Int) rs with
  | false =>
   clear hr
   go_wp2_with fail
   go_ret
   exact ⟨rfl, sb4⟩
  | true =>
   have HR := hide hr
   obtain ⟨W5, hW5⟩ : ∃ W, w4.alloc (.cells #[.slice a0 x0.length c0, .bool false, .slice none 0 0] 45) = W := ⟨_, rfl⟩
   obtain ⟨g5, hg5⟩ : ∃ g, w4.heap.size = g := ⟨_, rfl⟩
   have b5 : Blk W5 g5 45 #[.slice a0 x0.length c0, .bool false, .slice none 0 0] := by rw [← hW5, ← hg5]; exact Blk.new _ _ _
   have s5 : Below w4.heap.size w4 W5 := by rw [← hW5]; exact (Below.refl _ _).alloc (Nat.le_refl _) _
   have sb5 := sb4.trans (s5.mono sb4.size)
   have hx5 := hx4.below s5 (Nat.le_refl _)
   have hv5 := HV.out.below sb5 (Nat.le_refl _)
   have hr5 := one_row b5 HF0.out hv5
   have hRC : Hid (Calls Try.prog 12 #[.int .i64 (x0.length : Int), .slice (some ⟨g5, 0, none⟩) 1 1] W5 fun e w' => e = .returned (.bool (rightI (x0.length : Int) [⟨a0, c0, x0, zRaw⟩])) ∧ Below W5.heap.size W5 w') := hide (iright_any _ _ 1 [⟨a0, c0, x0, zRaw⟩] W5 hr5 (by show 1 ≤ 1000; decide) (fun r hr => by obtain rfl := List.mem_singleton.1 hr; show x0.length ≤ _; omega) rfl)
   have HW5 := hide hW5
   have HG5 := hide hg5
   clear hr hW5 hg5 hx1 hx2 hx3 hx4 s5 sb3 b5 hr5 hv5
   go_wp2_with fail
   rw [HW5.out, HG5.out]
   refine hRC.out.mono ?_
   rintro e w6 ⟨rfl, hb6⟩
   clear hRC HW5 HG5
   have sb6 := sb5.trans (hb6.mono sb5.size)
   have hx6 := hx5.below hb6 (Nat.le_refl _)
   clear hx5 hb6 sb5 sb4
   cases hr1 : rightI (x0.length : Int) [⟨a0, c0, x0, zRaw⟩] with
   | false =>
    clear hr1
    go_wp2_with fail
    go_ret
    exact ⟨rfl, sb6⟩
   | true =>
    have HOK := hide (one_right hr1).2
    obtain ⟨W7, hW7⟩ : ∃ W, w6.alloc (.cells #[.slice a0 x0.length c0, .bool false, .slice none 0 0] 48) = W := ⟨_, rfl⟩
    obtain ⟨g7, hg7⟩ : ∃ g, w6.heap.size = g := ⟨_, rfl⟩
    have b7 : Blk W7 g7 48 #[.slice a0 x0.length c0, .bool false, .slice none 0 0] := by rw [← hW7, ← hg7]; exact Blk.new _ _ _
    have s7 : Below w6.heap.size w6 W7 := by rw [← hW7]; exact (Below.refl _ _).alloc (Nat.le_refl _) _
    have sb7 := sb6.trans (s7.mono sb6.size)
    have hx7 := hx6.below s7 (Nat.le_refl _)
    have hr7 := one_row b7 HF0.out (HV.out.below sb7 (Nat.le_refl _))
    have hGC : Hid (Calls Try.prog 9 #[.int .i64 (x0.length : Int), .slice (some ⟨g7, 0, none⟩) 1 1] W7 (IGreatPost W7 (x0.length : Int) [⟨a0, c0, x0, zRaw⟩])) := hide (igreat_any _ _ 1 [⟨a0, c0, x0, zRaw⟩] W7 hr7)
    have HW7 := hide hW7
    have HG7 := hide hg7
    clear hr1 hW7 hg7 hx6 s7 b7 hr7 sb6
    go_wp2_with fail
    rw [HW7.out, HG7.out]
    refine hGC.out.mono ?_
    rintro e w8 ⟨hb8, g, rfl, hg⟩
    clear hGC HW7 HG7
    have sb8 := sb7.trans (hb8.mono sb7.size)
    have hx8 := hx7.below hb8 (Nat.le_refl _)
    clear hx7 hb8 sb7
    cases g with
    | true =>
     clear hg
     go_wp2_with fail
     go_ret
     exact ⟨rfl, sb8⟩
    | false =>
     obtain ⟨_, _, hs2⟩ := hg rfl
     have hvs : ∀ R ∈ x0, R.ds.length ≤ 1 := (hs2 _ (List.mem_cons_self ..)).2.2
     have HVS := hide hvs
     have hfair := great_fair h4 h10 HS.out HR.out
     obtain ⟨n, hn⟩ : ∃ n, x0.length = n := ⟨_, rfl⟩
     have hn4 : n ≤ 4 := by omega
     have HN := hide hn
     have hto : ((n : Nat) : Int).toNat = n := by omega
     rw [hn, hto] at hfair
     have HFA := hide hfair
     have hxl : ∀ r ∈ rs, r.xs.length ≤ 1000000 := fun r hr => Nat.le_trans (HS.out r hr).1 (by decide)
     have HXL := hide hxl
     have HSV : Hid (∀ (ls : List LRow) (b : Option Addr) (cb : Nat) (w : World), IRowsAt w b ls → ls.length ≤ 10 → (∀ r ∈ ls, r.xs.length ≤ 1000000) → rightI (n : Int) ls = true → LFair (isysOf n ls) → Calls Try.prog 10 #[.int .i64 (n : Int), .slice b ls.length cb, .int .i64 fu] w fun e w' => Below w.heap.size w w' ∧ ∃ (vd us : Int) (va : Option Addr) (vc : Nat) (vals : List Int) (ra : Option Addr) (rc : Nat) (rows : List Nat), e = .returned (.tuple #[.agg #[.int .i64 vd, .slice va vals.length vc, .slice ra rows.length rc, .int .i64 us], .int .i64 0]) ∧ LOut (isysOf n ls) fu vd us vals rows ∧ AnsAt w' va vc vals ra rows) := hide (fun ls b cb w hx hl hxl hr hf => by
      have h := lsolve_at (U := (n : Int)) (cap := cb) (fuel := fu) w hx (by omega) hxl hr (by rw [hto]; exact hf) (by omega)
      rw [hto] at h
      exact h)
     have HRN : Hid (rightI (n : Int) rs = true) := hide (by rw [← hn]; exact HR.out)
     clear hg hs2 hvs hfair hn hto hxl HR
     rw [HN.out]
     obtain ⟨N, hNN⟩ : ∃ N, w8.heap.size = N := ⟨_, rfl⟩
     have h0 : MadeI (w8.alloc (.cells #[] 48)) N 48 (.slice (some ⟨w8.heap.size, 0, none⟩) 0 0) [] := World.ownsRow_made w8 #[] 0 (by omega) (by unfold maxLen; omega) rfl
     have hb0 : Below N w8 (w8.alloc (.cells #[] 48)) := by rw [← hNN]; exact (Below.refl _ _).alloc (Nat.le_refl _) _
     obtain ⟨W, hW⟩ : ∃ W, w8.alloc (.cells #[] 48) = W := ⟨_, rfl⟩
     rw [hW] at h0 hb0
     rw [hNN] at h0
     have hcal : Calm W N := by
      rw [← hW, ← hNN]
      exact Calm.of (Blk.new w8 _ _) (fun u hu => by simp at hu)
     have hNW : N ≤ W.heap.size := by rw [← hNN] at hb0 ⊢; exact hb0.size
     have HW := hide hW
     have HNN := hide hNN
     clear hW hNN
     go_upto_region 7 with (fail)
     rw [HW.out, HNN.out]
     clear HW
     have HM0 : Hid (N ≤ N ∧ MadeI W N 48 (.slice (some ⟨N, 0, none⟩) 0 0) [] ∧ NewL W rs [] 0 (tightZ x0 rs n) ∧ Calm W N) := hide ⟨Nat.le_refl _, h0, NewL.nil, hcal⟩
     clear h0 hcal
     go_wp2_with fail
     go_loopg [10, 57] rs.length (fun k v10 v57 wr => ∃ (j g c : Nat) (ls : List LRow), j + k = rs.length ∧ v57 = .int .i64 (j : Int) ∧ v10 = .slice (some ⟨g, 0, none⟩) j c ∧ Below N w8 wr ∧ N ≤ wr.heap.size ∧ Hid (N ≤ g ∧ MadeI wr N 48 (.slice (some ⟨g, 0, none⟩) j c) ls ∧ NewL wr rs ls j (tightZ x0 rs n) ∧ Calm wr g))
     case atStart => exact ⟨0, N, 0, [], by omega, rfl, rfl, hb0, hNW, HM0⟩
     case round =>
      clear HM0 hb0 hNW
      obtain ⟨j, g, c, ls, hjk, rfl, rfl, hB, hBN, HM⟩ := hrel
      rcases Nat.eq_zero_or_pos gk with h0 | h0
      ·subst h0
       obtain rfl : j = rs.length := by omega
       have sb9 : Below w.heap.size w wr := sb8.trans (hB.mono (by rw [← HNN.out]; exact sb8.size))
       have hxw := hx8.below hB (by rw [HNN.out]; exact Nat.le_refl _)
       have hls := HM.out.2.2.1.rows HM.out.2.1 hxw
       have hlen := HM.out.2.2.1.len
       have HX9 := hide hxw
       have HOUT := hide HM.out.2.2.1
       have hc1 := HSV.out ls (some ⟨g, 0, none⟩) c wr hls (by omega) (HM.out.2.2.1.xl HXL.out) (HM.out.2.2.1.right HRN.out) (HM.out.2.2.1.fair HFA.out)
       rw [hlen] at hc1
       have HC1 := hide hc1
       clear hxw hls hc1 hjk hB HM hlen sb8 hx8
       go_wp2_with fail
       refine HC1.out.mono ?_
       rintro e w10 ⟨hb10, v15, u15, va15, vc15, vs15, ra15, rc15, rr15, rfl, hO15, -⟩
       have sb10 := sb9.trans (hb10.mono sb9.size)
       have hx10 := HX9.out.below hb10 (Nat.le_refl _)
       have hv15 := finds_tight HOUT.out hO15
       clear HC1 HX9 HOUT hb10 sb9 hO15
       obtain ⟨W15, hW15⟩ : ∃ W, w10.alloc (.cells #[.int .i64 v15, .slice va15 vs15.length vc15, .slice ra15 rr15.length rc15, .int .i64 u15] 28) = W := ⟨_, rfl⟩
       obtain ⟨g15, hg15⟩ : ∃ g, w10.heap.size = g := ⟨_, rfl⟩
       have b15 : Blk W15 g15 28 #[.int .i64 v15, .slice va15 vs15.length vc15, .slice ra15 rr15.length rc15, .int .i64 u15] := by rw [← hW15, ← hg15]; exact Blk.new _ _ _
       have sA15 : Below w10.heap.size w10 W15 := by rw [← hW15]; exact (Below.refl _ _).alloc (Nat.le_refl _) _
       have HW15 := hide hW15
       have HG15 := hide hg15
       clear hW15 hg15
       go_upto_region 19 with (fail)
       rw [HW15.out, HG15.out]
       clear HW15 HG15
       have sb11 := sb10.trans (sA15.mono sb10.size)
       have hx11 := hx10.below sA15 (Nat.le_refl _)
       clear sA15 hx10 sb10
       have hc2 := HSV.out rs a1 c1 W15 hx11 h10 HXL.out HRN.out HFA.out
       have HC2 := hide hc2
       clear hc2
       go_wp2_with fail
       refine HC2.out.mono ?_
       rintro e w12 ⟨hb12, v17, u17, va17, vc17, vs17, ra17, rc17, rr17, rfl, hO17, -⟩
       have sb12 := sb11.trans (hb12.mono sb11.size)
       have hx12 := hx11.below hb12 (Nat.le_refl _)
       replace b15 := b15.below hb12 b15.lt
       have HO17 := hide hO17
       clear HC2 hb12 sb11 hx11 hO17
       obtain ⟨W17, hW17⟩ : ∃ W, w12.alloc (.cells #[.int .i64 v17, .slice va17 vs17.length vc17, .slice ra17 rr17.length rc17, .int .i64 u17] 28) = W := ⟨_, rfl⟩
       obtain ⟨g17, hg17⟩ : ∃ g, w12.heap.size = g := ⟨_, rfl⟩
       have b17 : Blk W17 g17 28 #[.int .i64 v17, .slice va17 vs17.length vc17, .slice ra17 rr17.length rc17, .int .i64 u17] := by rw [← hW17, ← hg17]; exact Blk.new _ _ _
       have sA17 : Below w12.heap.size w12 W17 := by rw [← hW17]; exact (Below.refl _ _).alloc (Nat.le_refl _) _
       have HW17 := hide hW17
       have HG17 := hide hg17
       clear hW17 hg17
       go_upto_region 20 with (fail)
       rw [HW17.out, HG17.out]
       clear HW17 HG17
       have sb13 := sb12.trans (sA17.mono sb12.size)
       have hx13 := hx12.below sA17 (Nat.le_refl _)
       replace b15 := b15.below sA17 b15.lt
       clear sA17 hx12 sb12
       have hmask := and_mask16 cut
       generalize hcx : cut % 65536 = x at hmask
       have hcx0 : 0 ≤ x ∧ x < 65536 := by omega
       clear hcx
       have hk0 : 0 ≤ x % ((rs.length : Int) + 1) := Int.emod_nonneg _ (by omega)
       have hk1 : x % ((rs.length : Int) + 1) < (rs.length : Int) + 1 := Int.emod_lt_of_pos _ (by omega)
       obtain ⟨k, hk⟩ := Int.eq_ofNat_of_zero_le hk0
       have hkl : k ≤ rs.length := by omega
       have hkc : k ≤ c1 := Nat.le_trans hkl HF1.out.1
       have hlk : (rs.take k).length = k := by rw [List.length_take]; omega
       have hc3 := HSV.out (rs.take k) a1 c1 W17 (rows_take hx13 k) (by omega) (fun r hr => HXL.out r (List.mem_of_mem_take hr)) (right_take HRN.out k) (by
        refine ⟨HFA.out.n, by show (rs.take k).length ≤ 40; omega, ⟨fun i c hi hc => ?_, fun i hi => ?_⟩⟩
        ·have hi' : i < (rs.take k).length := hi
         show len (timesZ (rs.take k) i c) ≤ 1
         rw [(take_times (by omega)).1]
         exact HFA.out.sz.A i c (by show i < rs.length; omega) hc
        ·have hi' : i < (rs.take k).length := hi
         show len (mostZ (rs.take k) i) ≤ 100
         rw [(take_times (c := 0) (by omega)).2]
         exact HFA.out.sz.most i (by show i < rs.length; omega))
       rw [hlk] at hc3
       have HC3 := hide hc3
       clear hc3 hlk
       go_wp2_with fail
       rw [hk]
       try simp only [Int.toNat_natCast]
       clear hk hk0 hk1 hmask
       refine HC3.out.mono ?_
       rintro e w14 ⟨hb14, v19, u19, va19, vc19, vs19, ra19, rc19, rr19, rfl, hO19, -⟩
       have hle := fun hv => finds_less hkl HO17.out hO19 hv
       have sb14 := sb13.trans (hb14.mono sb13.size)
       replace b15 := b15.below hb14 b15.lt
       replace b17 := b17.below hb14 b17.lt
       clear HC3 hO19 HO17 hb14 sb13
       obtain ⟨W19, hW19⟩ : ∃ W, w14.alloc (.cells #[.int .i64 v19, .slice va19 vs19.length vc19, .slice ra19 rr19.length rc19, .int .i64 u19] 28) = W := ⟨_, rfl⟩
       obtain ⟨g19, hg19⟩ : ∃ g, w14.heap.size = g := ⟨_, rfl⟩
       have b19 : Blk W19 g19 28 #[.int .i64 v19, .slice va19 vs19.length vc19, .slice ra19 rr19.length rc19, .int .i64 u19] := by rw [← hW19, ← hg19]; exact Blk.new _ _ _
       have sA19 : Below w14.heap.size w14 W19 := by rw [← hW19]; exact (Below.refl _ _).alloc (Nat.le_refl _) _
       have HW19 := hide hW19
       have HG19 := hide hg19
       clear hW19 hg19
       go_upto_region 21 with (fail)
       rw [HW19.out, HG19.out]
       clear HW19 HG19
       have sb15 := sb14.trans (sA19.mono sb14.size)
       replace b15 := b15.below sA19 b15.lt
       replace b17 := b17.below sA19 b17.lt
       clear sA19 sb14
       obtain ⟨x0', x1', x2', x3', -⟩ := b15.c4
       obtain ⟨y0', y1', y2', y3', -⟩ := b17.c4
       obtain ⟨z0', z1', z2', z3', -⟩ := b19.c4
       have e15 : (v15 != 2) = true := by simp [hv15]
       by_cases h17 : v17 = 1
       ·have e17 : (v17 != 1) = false := by simp [h17]
        have e19 : (v19 != 2) = true := by simp [hle h17]
        clear hle hv15 h17
        go_wp2_with fail
        go_ret
        exact ⟨rfl, sb15⟩
       ·have e17 : (v17 != 1) = true := by simp [h17]
        clear hle hv15
        go_wp2_with fail
        go_ret
        exact ⟨rfl, sb15⟩
      ·have hj : j < rs.length := by omega
       have ej : (j : Int) < (rs.length : Int) := by omega
       obtain ⟨b, o, rfl, hr⟩ := HX.out (by omega)
       obtain ⟨r0, rfit, rcs, m0, m1, mok⟩ := ((hr j hj).below sb8 (Nat.le_refl _)).below hB (by rw [HNN.out]; exact Nat.le_refl _)
       obtain ⟨hrl, _, hrok⟩ := right_irow HRN.out hj
       have hrsz := (HS.out rs[j] (List.getElem_mem hj)).2
       obtain ⟨r, hrr⟩ : ∃ r, rs[j] = r := ⟨_, rfl⟩
       have hzt := times_val hj hrr
       rw [hrr] at r0 rfit rcs m0 m1 mok hrl hrok hrsz
       have HRR := hide hrr
       have HRL := hide hrl
       have HZT := hide hzt
       have hlz : ∀ c, len (timesZ rs j c * valZ x0 c) ≤ 2 := fun c => by
        have h1 := len_mul (timesZ rs j c) (valZ x0 c)
        have h2 := valZ_len HOK.out HVS.out c
        have h3 : len (timesZ rs j c) ≤ 1 := by rw [hzt]; exact valZ_len hrok hrsz.2 c
        omega
       have HLZ := hide hlz
       have HROK := hide hrok
       have HRSZ := hide hrsz
       rw [hrl] at r0
       obtain ⟨W2, hW2⟩ : ∃ W2, wr.alloc (.cells #[.slice r.at_ n r.cap, .bool r.most.neg, .slice r.most.at_ r.most.ds.length r.most.cap] 48) = W2 := ⟨_, rfl⟩
       obtain ⟨W3, hW3⟩ : ∃ W3, W2.alloc (.cells #[.bool false, .slice none 0 0] 38) = W3 := ⟨_, rfl⟩
       obtain ⟨g12, hg12⟩ : ∃ g, wr.heap.size = g := ⟨_, rfl⟩
       obtain ⟨g13, hg13⟩ : ∃ g, W2.heap.size = g := ⟨_, rfl⟩
       have s2 : Below wr.heap.size wr W2 := by rw [← hW2]; exact (Below.refl _ _).alloc (Nat.le_refl _) _
       have s3 : Below g13 W2 W3 := by rw [← hW3, ← hg13]; exact (Below.refl _ _).alloc (Nat.le_refl _) _
       have b12 : Blk W2 g12 48 #[.slice r.at_ n r.cap, .bool r.most.neg, .slice r.most.at_ r.most.ds.length r.most.cap] := by rw [← hW2, ← hg12]; exact Blk.new _ _ _
       have b13 : Blk W3 g13 38 #[.bool false, .slice none 0 0] := by rw [← hW3, ← hg13]; exact Blk.new _ _ _
       have hg1213 : g12 < g13 := by rw [← hg13]; exact b12.lt
       have hBq : N ≤ g13 := by rw [← hg13]; exact Nat.le_trans hBN s2.size
       have hB2 : Below N w8 W2 := hB.trans (s2.mono hBN)
       have hg13e : W2.heap.size ≤ g13 := Nat.le_of_eq hg13
       have HM2 : Hid (N ≤ g ∧ MadeI W2 N 48 (.slice (some ⟨g, 0, none⟩) j c) ls ∧ NewL W2 rs ls j (tightZ x0 rs n) ∧ Calm W2 g) := hide ⟨HM.out.1, own_stays HM.out.2.1 (fun k hk => s2.block k (HM.out.2.1.lt k hk).2), HM.out.2.2.1.below s2 (Nat.le_refl _), HM.out.2.2.2.below s2 (HM.out.2.1.lt g rfl).2⟩
       have HCS : Hid (IListAt W2 r.at_ r.xs) := hide (rcs.below s2 (Nat.le_refl _))
       have HVL : Hid (IListAt W2 a0 x0) := hide ((HV.out.below sb8 (Nat.le_refl _)).below hB2 (by rw [HNN.out]; exact Nat.le_refl _))
       have HGB : Hid (g < g13) := hide (by have := (HM.out.2.1.lt g rfl).2; omega)
       have HX0 : Hid (∃ (m : Bool) (a : Option Addr) (l k : Nat), Blk W3 g13 38 #[.bool m, .slice a l k] ∧ IntV W3 (.agg #[.bool m, .slice a l k]) ((sumI 0 fun c => timesZ rs j c * valZ x0 c))) := hide ⟨false, none, 0, 0, b13, IntV.zero _⟩
       have HW2 := hide hW2
       have HW3 := hide hW3
       have HG12 := hide hg12
       have HG13 : Hid (g12 + 1 = g13) := hide (by rw [← hg12, ← hg13, ← hW2]; simp)
       have HHE := hide hg13e
       have hg3l : g13 < W3.heap.size := b13.lt
       clear hW2 hW3 hg12 hg13 s2 b13 hB hBN HM rcs mok rfit hrr hrok hrsz hzt hr hlz hg13e
       go_upto_region 11 with (fail)
       rw [HW2.out, HW3.out, HG12.out, HG13.out]
       clear HW2 HW3 HG12 HG13 r0 m0 m1
       obtain ⟨K0, hK0⟩ : ∃ K0, K0 = gk := ⟨_, rfl⟩
       subst hK0
       go_wp2_with fail
       go_loopg [64] n (fun k v64 wr => ∃ q : Nat, q + k = n ∧ v64 = .int .i64 (q : Int) ∧ Below g13 W2 wr ∧ g13 < wr.heap.size ∧ Hid (∃ (m : Bool) (a : Option Addr) (l k : Nat), Blk wr g13 38 #[.bool m, .slice a l k] ∧ IntV wr (.agg #[.bool m, .slice a l k]) ((sumI q fun c => timesZ rs j c * valZ x0 c))))
       case atStart => exact ⟨0, by omega, rfl, s3, hg3l, HX0⟩
       case round =>
        clear HX0 s3 hg3l
        obtain ⟨q, hqk, rfl, hBi, hg13s, HXB⟩ := hrel
        obtain ⟨xm, xa, xl, xk, bx, hxi⟩ := HXB.out
        have b12i := b12.below hBi hg1213
        have HM4 : Hid (N ≤ g ∧ MadeI wr N 48 (.slice (some ⟨g, 0, none⟩) j c) ls ∧ NewL wr rs ls j (tightZ x0 rs n) ∧ Calm wr g) := hide ⟨HM2.out.1, own_stays HM2.out.2.1 (fun k hk => hBi.block k (by obtain rfl := Option.some.inj hk; exact HGB.out)), HM2.out.2.2.1.below hBi HHE.out, fun i z e => HM2.out.2.2.2 i z ((hBi.cell (p := ⟨g, i, none⟩) HGB.out).symm.trans e)⟩
        have k0 : wr.cell? ⟨g12, 0, none⟩ = some (.slice r.at_ n r.cap) := b12i.cell 0
        obtain ⟨k1, k2, -⟩ := bx.c2
        have hBw : Below N w8 wr := hB2.trans (hBi.mono hBq)
        have hNw : N ≤ wr.heap.size := by omega
        rcases Nat.eq_zero_or_pos gk with h1 | h1
        ·subst h1
         obtain rfl : n = q := by omega
         obtain ⟨R, rfl, rfl, rfl, rfl, hRo, hRf, hRz, hRl⟩ := hxi.raw (N := 20) (Nat.le_trans (sumI_len HLZ.out n) (by omega)) (by decide)
         have hlen := HM4.out.2.2.1.len
         have how0 : wr.ownsRow N 48 3 (.slice (some ⟨g, 0, none⟩) j c) j (ls.flatMap LRow.cells) := by
          have h := HM4.out.2.1
          unfold MadeI at h
          rw [hlen] at h
          exact h
         obtain ⟨W4, hW4⟩ : ∃ W, wr.alloc (.cells #[.slice r.at_ n r.cap, .bool R.neg, .slice R.at_ R.ds.length R.cap] 48) = W := ⟨_, rfl⟩
         have s4 : Below wr.heap.size wr W4 := by rw [← hW4]; exact (Below.refl _ _).alloc (Nat.le_refl _) _
         have hNS : ∀ i u, ([.slice r.at_ n r.cap, .bool R.neg, .slice R.at_ R.ds.length R.cap] : List Value)[i]? = some u → W4.cell? ((⟨wr.heap.size, 0, none⟩ : Addr).add i) = some u := by rw [← hW4]; exact news_three _ _ _ _ _
         have HOW : Hid (W4.ownsRow N 48 3 (.slice (some ⟨g, 0, none⟩) j c) j (ls.flatMap LRow.cells)) := hide (own_stays how0 (fun k hk => s4.block k (how0.lt k hk).2))
         have HCA : Hid (∀ k, (Value.slice (some ⟨g, 0, none⟩) j c).ownBlock = some k → Calm W4 k) := hide (fun k hk => by
          obtain rfl := Option.some.inj hk
          exact HM4.out.2.2.2.below s4 (how0.lt _ rfl).2)
         have HNL : Hid (NewL W4 rs (ls ++ [⟨r.at_, r.cap, r.xs, R⟩]) (j + 1) (tightZ x0 rs n)) := hide ((HM4.out.2.2.1.snoc hj HRR.out hRo hRf hRz hRl).below s4 (Nat.le_refl _))
         have HNS := hide hNS
         have HNU := hide (lrow_calm r.at_ R.at_ n r.cap R.ds.length R.cap R.neg)
         have HZU := hide zeroLRow_calm
         have hB4 : Below N w8 W4 := hBw.trans (s4.mono hNw)
         have hN4 : N ≤ W4.heap.size := Nat.le_trans hNw s4.size
         have HW4 := hide hW4
         obtain ⟨i0, hi0, hz0, hz1, hz2⟩ := info_parts infoLRow
         have hcell : ([⟨r.at_, r.cap, r.xs, R⟩] : List LRow).flatMap LRow.cells = [.slice r.at_ n r.cap, .bool R.neg, .slice R.at_ R.ds.length R.cap] := by
          have e : r.xs.length = n := HRL.out
          simp [LRow.cells, e]
         have HCE := hide hcell
         have HLE := hide hlen
         clear hW4 hNS s4 hRo hRf hRz hRl hcell hlen hxi bx b12i hBi hBw
         go_upto_region 16 with (fail)
         go_wp2_with (at_builtin; (try rw [HW4.out]); refine wpList_append_calm _ rfl (.tmp 80) (.tmp 85) 22 rfl N 48 i0 (.agg #[.slice none 0 0, .bool false, .slice none 0 0]) 3 56 Try.underlying22 hi0 hz0 hz1 hz2 rfl (by decide) (.slice (some ⟨g, 0, none⟩) j c) j (ls.flatMap LRow.cells) rfl HOW.out ⟨wr.heap.size, 0, none⟩ 1 1 [.slice r.at_ n r.cap, .bool R.neg, .slice R.at_ R.ds.length R.cap] rfl rfl HNS.out (by simp [Value.oneCell']) ?c4 ?c5 hN4 HCA.out HNU.out HZU.out ?_)
         case c4 => unfold maxLen; omega
         case c5 => omega
         intro v9 w1 hown hgrow hat hcalm
         have hB5 : Below N w8 w1 := hB4.grown hgrow (by omega) (fun k hk => by obtain rfl := Option.some.inj hk; exact HM4.out.1)
         have hN5 : N ≤ w1.heap.size := Nat.le_trans hN4 hgrow.size
         obtain ⟨g', cp, rfl⟩ : ∃ g' cp, v9 = .slice (some ⟨g', 0, none⟩) (j + 1) cp := by
          rcases hown.2 with ⟨_, h⟩ | ⟨g', cp, _, h, _⟩
          ·omega
          ·exact ⟨g', cp, h⟩
         have HM5 : Hid (N ≤ g' ∧ MadeI w1 N 48 (.slice (some ⟨g', 0, none⟩) (j + 1) cp) (ls ++ [⟨r.at_, r.cap, r.xs, R⟩]) ∧ NewL w1 rs (ls ++ [⟨r.at_, r.cap, r.xs, R⟩]) (j + 1) (tightZ x0 rs n) ∧ Calm w1 g') := hide ⟨(hown.lt g' rfl).1, by
          unfold MadeI
          rw [List.flatMap_append, HCE.out, List.length_append, HLE.out]
          exact hown, HNL.out.grown hgrow HCA.out, hcalm g' rfl⟩
         clear hown hgrow hat hcalm HOW HCA HNL HNS HNU HM4 HM2 k0 k1 k2
         go_wp2_with fail
         go_roundg (K0 - 1)
         case measure => omega
         case rel => exact ⟨j + 1, g', cp, _, by omega, by go_num, rfl, hB5, hN5, HM5⟩
        ·have hq : q < n := by omega
         have eq : (q : Int) < (n : Int) := by omega
         obtain ⟨bA, oA, heA, hA⟩ := (HCS.out.below hBi HHE.out) (by rw [HRL.out]; omega)
         obtain ⟨bV, oV, rfl, hV⟩ := (HVL.out.below hBi HHE.out) (by rw [HN.out]; omega)
         have hqr : q < r.xs.length := by rw [HRL.out]; exact hq
         have hqv : q < x0.length := by rw [HN.out]; exact hq
         obtain ⟨en, ea, el, ek, t0, t1, hez⟩ := (hA q hqr).iat (HROK.out _ (List.getElem_mem hqr))
         obtain ⟨vn, va, vl, vk, t2, t3, hvz⟩ := (hV q hqv).iat (HOK.out _ (List.getElem_mem hqv))
         rw [← valZ_at hqr, ← HZT.out q] at hez
         rw [← valZ_at hqv] at hvz
         rw [heA] at k0
         have se : Sm (timesZ rs j q) := by rw [HZT.out q]; exact Nat.le_trans (valZ_len HROK.out HRSZ.out.2 q) (by decide)
         have sv : Sm (valZ x0 q) := Nat.le_trans (valZ_len HOK.out HVS.out q) (by decide)
         have sp : Sm (timesZ rs j q * valZ x0 q) := Nat.le_trans (HLZ.out q) (by decide)
         have sx : Sm ((sumI q fun c => timesZ rs j c * valZ x0 c)) := Nat.le_trans (Nat.le_trans (sumI_len HLZ.out q) (show 2 + q ≤ 100 by omega)) (by decide)
         have HEZ := hide hez
         have HVZ := hide hvz
         have HXI := hide hxi
         clear hez hvz hxi hA hV heA HM4 HXB b12i
         go_upto_region 14 with (fail)
         refine wp_region_till (S := fun w' => w'.cell? ⟨g13, 0, none⟩ = some (.bool xm) ∧ w'.cell? ⟨g13, 1, none⟩ = some (.slice xa xl xk) ∧ w'.cell? ⟨g12, 0, none⟩ = some (.slice (some ⟨bA, oA, none⟩) n r.cap) ∧ w'.cell? ⟨bA, oA + q * 2, none⟩ = some (.bool en) ∧ w'.cell? ⟨bA, oA + q * 2 + 1, none⟩ = some (.slice ea el ek) ∧ w'.cell? ⟨bV, oV + q * 2, none⟩ = some (.bool vn) ∧ w'.cell? ⟨bV, oV + q * 2 + 1, none⟩ = some (.slice va vl vk) ∧ Below wr.heap.size wr w') (fun i => decide (i < 12)) (by kernel_rfl) (⟨k1, k2, k0, t0, t1, t2, t3, (Below.refl _ _).drew⟩) (fun hS => ?_)
         refine tkT 0 ⟨some 67, .load 38 (.tmp 13), 38, "law.go:97", #[], none⟩ hS ?_
         try simp only [Act.put, sB, sC, sD]
         refine tkT 1 ⟨some 68, .fieldAddr 48 (.tmp 12) 0, 0, "law.go:97", #[], none⟩ hS ?_
         try simp only [Act.put, sB, sC, sD]
         refine tkT 2 ⟨some 69, .load 25 (.tmp 68), 25, "law.go:97", #[eD 1], none⟩ hS ?_
         try simp only [Act.put, sB, sC, sD]
         refine tkT 3 ⟨some 70, .move (.tmp 14), 3, "law.go:97", #[], none⟩ hS ?_
         try simp only [Act.put, sB, sC, sD]
         refine tkT 4 ⟨some 71, .indexAddr 25 (.tmp 69) (.tmp 70), 0, "law.go:97", #[eD 2, eD 3], none⟩ hS ?_
         try simp only [Act.put, sB, sC, sD]
         refine tkT 5 ⟨some 72, .load 38 (.tmp 71), 38, "law.go:97", #[eD 4], none⟩ hS ?_
         try simp only [Act.put, sB, sC, sD]
         refine tkT 6 ⟨some 73, .move (.tmp 0), 25, "law.go:97", #[], none⟩ hS ?_
         try simp only [Act.put, sB, sC, sD]
         refine tkT 7 ⟨some 74, .move (.tmp 14), 3, "law.go:97", #[], none⟩ hS ?_
         try simp only [Act.put, sB, sC, sD]
         refine tkT 8 ⟨some 75, .indexAddr 25 (.tmp 73) (.tmp 74), 0, "law.go:97", #[eD 6, eD 7], none⟩ hS ?_
         try simp only [Act.put, sB, sC, sD]
         refine tkT 9 ⟨some 76, .load 38 (.tmp 75), 38, "law.go:97", #[eD 8], none⟩ hS ?_
         try simp only [Act.put, sB, sC, sD]
         refine Till_ready (rs := [10]) (by kernel_rfl) (by kernel_rfl) (by simp) ?_
         refine AllReadyT.cons (o := ⟨some 77, .call { callee := .value (.func 18), args := #[.tmp 72, .tmp 76], argTypes := #[38, 38] }, 38, "law.go:97", #[eD 5, eD 9], none⟩) rfl (fun K hK => ?_) AllReadyT.nil
         go_simp
         (go_at_call 18; (with_reducible refine (Mul_any _ (HEZ.out.below hS.2.2.2.2.2.2.2 (Nat.le_refl _)) (HVZ.out.below hS.2.2.2.2.2.2.2 (Nat.le_refl _)) se sv).mono ?_); rintro e wM ⟨rM, rfl, hM, hb1⟩)
         obtain ⟨mn, ma, ml, mk, rfl⟩ := hM.form
         have hwM := hS.2.2.2.2.2.2.2.trans (hb1.mono hS.2.2.2.2.2.2.2.size)
         have hXM := HXI.out.below hwM (Nat.le_refl _)
         go_wp2_with fail
         refine hK.out _ _ (⟨cellK hb1 hS.1, cellK hb1 hS.2.1, cellK hb1 hS.2.2.1, cellK hb1 hS.2.2.2.1, cellK hb1 hS.2.2.2.2.1, cellK hb1 hS.2.2.2.2.2.1, cellK hb1 hS.2.2.2.2.2.2.1, hS.2.2.2.2.2.2.2.trans (hb1.mono hS.2.2.2.2.2.2.2.size)⟩) (fun hS => ?_)
         clear hK K hb1
         try simp only [Act.put, sB, sC, sD]
         refine Till_ready (rs := [11]) (by kernel_rfl) (by kernel_rfl) (by simp) ?_
         refine AllReadyT.cons (o := ⟨some 78, .call { callee := .value (.func 17), args := #[.tmp 67, .tmp 77], argTypes := #[38, 38] }, 38, "law.go:97", #[eD 0, eD 10, eC 10], none⟩) rfl (fun K hK => ?_) AllReadyT.nil
         go_simp
         (go_at_call 17; (with_reducible refine (Add_any _ hXM hM sx sp).mono ?_); rintro e wN ⟨rN, rfl, hN, hb1⟩)
         obtain ⟨sn, sa, sl, sk, rfl⟩ := hN.form
         go_wp2_with fail
         refine hK.out _ _ (⟨cellK hb1 hS.1, cellK hb1 hS.2.1, cellK hb1 hS.2.2.1, cellK hb1 hS.2.2.2.1, cellK hb1 hS.2.2.2.2.1, cellK hb1 hS.2.2.2.2.2.1, cellK hb1 hS.2.2.2.2.2.2.1, hS.2.2.2.2.2.2.2.trans (hb1.mono hS.2.2.2.2.2.2.2.size)⟩) (fun hS => ?_)
         clear hK K hb1
         try simp only [Act.put, sB, sC, sD]
         refine Till_turn (by kernel_rfl) ?_
         refine wpAnyH_ready (rs := [12]) (by kernel_rfl) (by simp) ?_
         refine AllReadyH.cons (o := ⟨none, .store 38 (.tmp 13) (.tmp 78), 0, "law.go:97", #[eD 11, eC 11, eP 0, eP 1, eP 2, eP 3, eP 4, eP 5, eP 6, eP 7, eP 8, eP 9, eP 10, eP 11], none⟩) rfl (fun K hK => ?_) AllReadyH.nil
         have hBN : Below wr.heap.size wr wN := hS.2.2.2.2.2.2.2
         have bxN := bx.below hBN bx.lt
         obtain ⟨z0, z1, -⟩ := bxN.c2
         have f0 := bxN.frozen 0
         have f1 := bxN.frozen 1
         have hCB : CB wN g13 38 2 := ⟨_, bxN, rfl, fun u hu => int_calm xm xa xl xk u (by simpa using hu)⟩
         obtain ⟨W5, hW5⟩ : ∃ W5, putL g13 wN 0 [.bool sn, .slice sa sl sk] = W5 := ⟨_, rfl⟩
         have HX5 : Hid (∃ (m : Bool) (a : Option Addr) (l k : Nat), Blk W5 g13 38 #[.bool m, .slice a l k] ∧ IntV W5 (.agg #[.bool m, .slice a l k]) ((sumI (q + 1) fun c => timesZ rs j c * valZ x0 c))) := hide ⟨sn, sa, sl, sk, by rw [← hW5]; exact (bxN.set_ 0 _).set_ 1 _, by rw [← hW5]; exact hN.putL hCB (int_calm _ _ _ _)⟩
         have hB5 : Below g13 W2 W5 := by rw [← hW5]; exact below_putL (hBi.trans (hBN.mono (Nat.le_of_lt hg13s))) (Nat.le_refl _)
         have hg5 : g13 < W5.heap.size := by rw [← hW5, size_putL]; exact Nat.lt_of_lt_of_le hg13s hBN.size
         simp only [putL] at hW5
         have HW5 := hide hW5
         clear hW5 hCB bxN hBN
         go_simp
         refine hK.out _ _ trivial (fun _ => ?_)
         clear hK K z0 z1 f0 f1
         try simp only [Act.put, sB, sC, sD]
         refine wpAnyH_done (by kernel_rfl) ?_ _
         rw [HW5.out]
         clear HW5 hS k0 k1 k2 t0 t1 t2 t3
         go_wp2_with fail
         go_roundg (gk - 1)
         case measure => omega
         case rel => exact ⟨q + 1, by omega, by go_num, hB5, hg5, HX5⟩
end Go.Proofs.Ytphjffbldhhdiaa
