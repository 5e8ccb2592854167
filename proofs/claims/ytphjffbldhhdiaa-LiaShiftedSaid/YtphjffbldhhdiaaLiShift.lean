/- The law LiaShifted: its walk. -/
import Derived.Test.YtphjffbldhhdiaaLiNew
import Derived.Test.YtphjffbldhhdiaaLiSpeaks
namespace Go.Proofs.Ytphjffbldhhdiaa
open Go.RowKit

def shiftZ (xs : List Raw) (rs : List LRow) (n i : Nat) : Int := mostZ rs i + sumI n fun c => timesZ rs i c * valZ xs c
theorem sumI_len2 {f : Nat → Int} (h : ∀ c, len (f c) ≤ 2) : ∀ n, len (sumI n f) ≤ 2 + n
 | 0 => by show len 0 ≤ _; exact Nat.zero_le _
 | n + 1 => by
  have h1 := len_add (sumI n f) (f n)
  have h2 := sumI_len2 h n
  have h3 := h n
  show len (sumI n f + f n) ≤ 2 + (n + 1)
  omega
theorem shift_len {m : Int} {f : Nat → Int} (hm : len m ≤ 1) (h : ∀ c, len (f c) ≤ 2) (n : Nat) : len (m + sumI n f) ≤ 3 + n := by
 have h1 := len_add m (sumI n f)
 have h2 := sumI_len2 h n
 omega
theorem shift_row {xs : List Raw} {rs ls : List LRow} {W : World} {n i : Nat} {p : Nat → Int} (h : NewL W rs ls rs.length (shiftZ xs rs n)) (hi : i < rs.length) : (isysOf n ls).Row (fun c => p c + valZ xs c) i ↔ (isysOf n rs).Row p i := by
 refine row_shift rfl (fun c _ => h.times i c) ?_
 have e : (isysOf n ls).most i = shiftZ xs rs n i := h.mosts hi
 have e2 : (isysOf n rs).most i = mostZ rs i := rfl
 rw [e, e2]
 unfold shiftZ
 rw [Rat.intCast_add, sumI_cast]
 congr 1
 refine sumR_congr fun c _ => ?_
 have e3 : (isysOf n rs).A i c = timesZ rs i c := rfl
 rw [e3, Rat.intCast_mul]
theorem shift_law {xs : List Raw} {rs ls : List LRow} {W : World} {n : Nat} (h : NewL W rs ls rs.length (shiftZ xs rs n)) {f vd us vd' us' : Int} {vs vs' : List Int} {rw rw' : List Nat} (ho : LOut (isysOf n rs) f vd us vs rw) (ho' : LOut (isysOf n ls) f vd' us' vs' rw') : vd = vd' ∨ vd = 0 ∨ vd' = 0 := by
 have hl := h.len
 rcases ho.kind with h0 | h0 | h0
 ·exact .inr (.inl h0)
 ·rcases ho'.kind with h1 | h1 | h1
  ·exact .inr (.inr h1)
  ·exact .inl (by omega)
  ·obtain ⟨z, hz, _⟩ := ho.sat h0
   refine (ho'.unsat_all h1 (fun c => z c + valZ xs c) (fun i hi => ?_)).elim
   have hi' : i < ls.length := hi
   exact (shift_row h (by omega)).2 (hz i (by show i < rs.length; omega))
 ·rcases ho'.kind with h1 | h1 | h1
  ·exact .inr (.inr h1)
  ·obtain ⟨z, hz, _⟩ := ho'.sat h1
   refine (ho.unsat_all h0 (fun c => z c - valZ xs c) (fun i hi => ?_)).elim
   have hi' : i < rs.length := hi
   refine (shift_row (xs := xs) h hi').1 ?_
   have e : (fun c => z c - valZ xs c + valZ xs c) = z := funext fun c => by omega
   rw [e]
   exact hz i (by show i < ls.length; omega)
  ·exact .inl (by omega)
set_option maxRecDepth 100000 in
set_option maxHeartbeats 12800000 in
theorem lshift_walk (U : Int) (a1 : Option Addr) (c1 : Nat) (rs : List LRow) (a0 : Option Addr) (c0 : Nat) (x0 : List Raw) (w : World) (hf1 : Fit a1 rs.length c1) (hw1 : IRowsAt w a1 rs) (hf0 : Fit a0 x0.length c0) (hw0 : IListAt w a0 x0) :
  Calls Try.prog 6 #[.int .i64 U, .slice a1 rs.length c1, .slice a0 x0.length c0] w fun e w' => e = .returned (.bool true) ∧ Below w.heap.size w w' := by
 have HX := hide hw1
 have HV := hide hw0
 have HF0 := hide hf0
 have HF1 := hide hf1
 clear hw1 hw0 hf0 hf1
 go_enter Try.func6, Try.ntmps6
 go_wp2_with fail
 refine (ispeaks_any w).mono ?_
 rintro e w1 ⟨rfl, hb1⟩
 have hx1 := HX.out.below hb1 (Nat.le_refl _)
 go_wp2_with fail
 refine (igreat_any U a1 c1 rs w1 hx1).mono ?_
 rintro e w2 ⟨hb2, g, rfl, hg⟩
 have sb2 := hb1.trans (hb2.mono hb1.size)
 cases g with
 | true =>
  clear hg
  go_wp2_with fail
  go_ret
  exact ⟨rfl, sb2⟩
 | false =>
  obtain ⟨h4, h10, hs⟩ := hg rfl
  have HS := hide hs
  have hx2 := hx1.below hb2 (Nat.le_refl _)
  clear hg hs
  go_wp2_with fail
  refine (irows_any a1 c1 rs w2 hx2 (by omega)).mono ?_
  rintro e w3 ⟨hb3, g3, k3, hg3, rfl, hx3⟩
  have sb3 := sb2.trans (hb3.mono sb2.size)
  have hR : Calls Try.prog 12 #[.int .i64 U, .slice (some ⟨g3, 0, none⟩) rs.length k3] w3 fun e w' => e = .returned (.bool (rightI U rs)) ∧ Below w3.heap.size w3 w' := iright_any _ _ k3 rs w3 hx3 (by omega) (fun r hr => Nat.le_trans (HS.out r hr).1 (by decide)) rfl
  have HRR := hide hR
  clear hR
  go_wp2_with fail
  refine HRR.out.mono ?_
  rintro e w4 ⟨rfl, hb4⟩
  clear HRR
  have sb4 := sb3.trans (hb4.mono sb3.size)
  have hx4 := (hx2.below hb3 (Nat.le_refl _)).below hb4 (Nat.le_refl _)
  cases hr : rightI U rs with
  | false =>
   clear hr
   go_wp2_with fail
   go_ret
   exact ⟨rfl, sb4⟩
  | true =>
   have HR := hide hr
   by_cases hlen : (x0.length : Int) = U
   rotate_left
   ·have el : ((x0.length : Int) != U) = true := by simp [hlen]
    clear hr
    go_wp2_with fail
    go_ret
    exact ⟨rfl, sb4⟩
   have el : ((x0.length : Int) != U) = false := by simp [hlen]
   have hlx : x0.length ≤ 4 := by omega
   obtain ⟨W5, hW5⟩ : ∃ W, w4.alloc (.cells #[.slice a0 x0.length c0, .bool false, .slice none 0 0] 48) = W := ⟨_, rfl⟩
   obtain ⟨g5, hg5⟩ : ∃ g, w4.heap.size = g := ⟨_, rfl⟩
   have b5 : Blk W5 g5 48 #[.slice a0 x0.length c0, .bool false, .slice none 0 0] := by rw [← hW5, ← hg5]; exact Blk.new _ _ _
   have s5 : Below w4.heap.size w4 W5 := by rw [← hW5]; exact (Below.refl _ _).alloc (Nat.le_refl _) _
   have sb5 := sb4.trans (s5.mono sb4.size)
   have hx5 := hx4.below s5 (Nat.le_refl _)
   have hr5 := one_row b5 HF0.out (HV.out.below sb5 (Nat.le_refl _))
   have hGC : Hid (Calls Try.prog 9 #[.int .i64 U, .slice (some ⟨g5, 0, none⟩) 1 1] W5 (IGreatPost W5 U [⟨a0, c0, x0, zRaw⟩])) := hide (igreat_any _ _ 1 [⟨a0, c0, x0, zRaw⟩] W5 hr5)
   have HR := hide hr
   have HW5 := hide hW5
   have HG5 := hide hg5
   clear hr hW5 hg5 hx1 hx2 hx3 hx4 s5 sb3 b5 hr5
   go_wp2_with fail
   rw [HW5.out, HG5.out]
   refine hGC.out.mono ?_
   rintro e w6 ⟨hb6, g, rfl, hg⟩
   clear hGC HW5 HG5
   have sb6 := sb5.trans (hb6.mono sb5.size)
   have hx6 := hx5.below hb6 (Nat.le_refl _)
   clear hx5 hb6 sb5 sb4
   cases g with
   | true =>
    clear hg
    go_wp2_with fail
    go_ret
    exact ⟨rfl, sb6⟩
   | false =>
    obtain ⟨_, _, hs2⟩ := hg rfl
    have hvs : ∀ R ∈ x0, R.ds.length ≤ 1 := (hs2 _ (List.mem_cons_self ..)).2.2
    have HVS := hide hvs
    clear hg hs2 hvs
    obtain ⟨W7, hW7⟩ : ∃ W, w6.alloc (.cells #[.slice a0 x0.length c0, .bool false, .slice none 0 0] 45) = W := ⟨_, rfl⟩
    obtain ⟨g7, hg7⟩ : ∃ g, w6.heap.size = g := ⟨_, rfl⟩
    have b7 : Blk W7 g7 45 #[.slice a0 x0.length c0, .bool false, .slice none 0 0] := by rw [← hW7, ← hg7]; exact Blk.new _ _ _
    have s7 : Below w6.heap.size w6 W7 := by rw [← hW7]; exact (Below.refl _ _).alloc (Nat.le_refl _) _
    have sb7 := sb6.trans (s7.mono sb6.size)
    have hx7 := hx6.below s7 (Nat.le_refl _)
    have hr7 := one_row b7 HF0.out (HV.out.below sb7 (Nat.le_refl _))
    have hRC : Hid (Calls Try.prog 12 #[.int .i64 U, .slice (some ⟨g7, 0, none⟩) 1 1] W7 fun e w' => e = .returned (.bool (rightI U [⟨a0, c0, x0, zRaw⟩])) ∧ Below W7.heap.size W7 w') := hide (iright_any _ _ 1 [⟨a0, c0, x0, zRaw⟩] W7 hr7 (by show 1 ≤ 1000; decide) (fun r hr => by obtain rfl := List.mem_singleton.1 hr; show x0.length ≤ _; omega) rfl)
    have HW7 := hide hW7
    have HG7 := hide hg7
    clear hW7 hg7 hx6 s7 b7 hr7 sb6
    go_wp2_with fail
    rw [HW7.out, HG7.out]
    refine hRC.out.mono ?_
    rintro e w8 ⟨rfl, hb8⟩
    clear hRC HW7 HG7
    have sb8 := sb7.trans (hb8.mono sb7.size)
    have hx8 := hx7.below hb8 (Nat.le_refl _)
    clear hx7 hb8 sb7
    cases hr1 : rightI U [⟨a0, c0, x0, zRaw⟩] with
    | false =>
     clear hr1
     go_wp2_with fail
     go_ret
     exact ⟨rfl, sb8⟩
    | true =>
     have HOK := hide (one_right hr1).2
     have hfair := great_fair h4 h10 HS.out HR.out
     obtain ⟨n, hn⟩ : ∃ n, x0.length = n := ⟨_, rfl⟩
     have hn4 : n ≤ 4 := by omega
     have HN := hide hn
     rw [hn] at hlen el
     subst hlen
     have hto : ((n : Nat) : Int).toNat = n := by omega
     rw [hto] at hfair
     have HFA := hide hfair
     have hxl : ∀ r ∈ rs, r.xs.length ≤ 1000000 := fun r hr => Nat.le_trans (HS.out r hr).1 (by decide)
     have HXL := hide hxl
     have HSV : Hid (∀ (ls : List LRow) (b : Option Addr) (cb : Nat) (w : World), IRowsAt w b ls → ls.length ≤ 10 → (∀ r ∈ ls, r.xs.length ≤ 1000000) → rightI (n : Int) ls = true → LFair (isysOf n ls) → Calls Try.prog 10 #[.int .i64 (n : Int), .slice b ls.length cb, .int .i64 150] w fun e w' => Below w.heap.size w w' ∧ ∃ (vd us : Int) (va : Option Addr) (vc : Nat) (vals : List Int) (ra : Option Addr) (rc : Nat) (rows : List Nat), e = .returned (.tuple #[.agg #[.int .i64 vd, .slice va vals.length vc, .slice ra rows.length rc, .int .i64 us], .int .i64 0]) ∧ LOut (isysOf n ls) 150 vd us vals rows ∧ AnsAt w' va vc vals ra rows) := hide (fun ls b cb w hx hl hxl hr hf => by
      have h := lsolve_at (U := (n : Int)) (cap := cb) (fuel := 150) w hx (by omega) hxl hr (by rw [hto]; exact hf) (by omega)
      rw [hto] at h
      exact h)
     have HRN : Hid (rightI (n : Int) rs = true) := HR
     clear hr1 hfair hn hto hxl
     rw [HN.out]
     obtain ⟨N, hNN⟩ : ∃ N, w8.heap.size = N := ⟨_, rfl⟩
     have h0 : MadeI (w8.alloc (.cells #[] 48)) N 48 (.slice (some ⟨w8.heap.size, 0, none⟩) 0 0) [] := World.ownsRow_made w8 #[] 0 (by omega) (by unfold maxLen; omega) rfl
     have hb0 : Below N w8 (w8.alloc (.cells #[] 48)) := by rw [← hNN]; exact (Below.refl _ _).alloc (Nat.le_refl _) _
     obtain ⟨W, hW⟩ : ∃ W, w8.alloc (.cells #[] 48) = W := ⟨_, rfl⟩
     rw [hW] at h0 hb0
     rw [hNN] at h0
     have hcal : Calm W N := by
      rw [← hW, ← hNN]
      exact Calm.of (Blk.new w8 _ _) (fun u hu => by simp at hu)
     have hNW : N ≤ W.heap.size := by rw [← hNN] at hb0 ⊢; exact hb0.size
     have HW := hide hW
     have HNN := hide hNN
     clear hW hNN
     go_upto_region 6 with (fail)
     rw [HW.out, HNN.out]
     clear HW
     have HM0 : Hid (N ≤ N ∧ MadeI W N 48 (.slice (some ⟨N, 0, none⟩) 0 0) [] ∧ NewL W rs [] 0 (shiftZ x0 rs n) ∧ Calm W N) := hide ⟨Nat.le_refl _, h0, NewL.nil, hcal⟩
     clear h0 hcal
     go_wp2_with fail
     go_loopg [7, 53] rs.length (fun k v7 v53 wr => ∃ (j g c : Nat) (ls : List LRow), j + k = rs.length ∧ v53 = .int .i64 (j : Int) ∧ v7 = .slice (some ⟨g, 0, none⟩) j c ∧ Below N w8 wr ∧ N ≤ wr.heap.size ∧ Hid (N ≤ g ∧ MadeI wr N 48 (.slice (some ⟨g, 0, none⟩) j c) ls ∧ NewL wr rs ls j (shiftZ x0 rs n) ∧ Calm wr g))
     case atStart => exact ⟨0, N, 0, [], by omega, rfl, rfl, hb0, hNW, HM0⟩
     case round =>
      clear HM0 hb0 hNW
      obtain ⟨j, g, c, ls, hjk, rfl, rfl, hB, hBN, HM⟩ := hrel
      rcases Nat.eq_zero_or_pos gk with h0 | h0
      ·subst h0
       obtain rfl : j = rs.length := by omega
       have sb9 : Below w.heap.size w wr := sb8.trans (hB.mono (by rw [← HNN.out]; exact sb8.size))
       have hxw := hx8.below hB (by rw [HNN.out]; exact Nat.le_refl _)
       have hls := HM.out.2.2.1.rows HM.out.2.1 hxw
       have hlen := HM.out.2.2.1.len
       have HX9 := hide hxw
       have HOUT := hide HM.out.2.2.1
       have hc1 := HSV.out rs a1 c1 wr hxw h10 HXL.out HRN.out HFA.out
       have HC1 := hide hc1
       have HLS := hide hls
       have HLL := hide hlen
       clear hxw hls hc1 hjk hB HM hlen sb8 hx8
       go_wp2_with fail
       refine HC1.out.mono ?_
       rintro e w10 ⟨hb10, v13, u13, va13, vc13, vs13, ra13, rc13, rr13, rfl, hO13, -⟩
       have sb10 := sb9.trans (hb10.mono sb9.size)
       have hx10 := HLS.out.below hb10 (Nat.le_refl _)
       clear HC1 HX9 hb10 sb9 HLS
       obtain ⟨W13, hW13⟩ : ∃ W, w10.alloc (.cells #[.int .i64 v13, .slice va13 vs13.length vc13, .slice ra13 rr13.length rc13, .int .i64 u13] 28) = W := ⟨_, rfl⟩
       obtain ⟨g13, hg13⟩ : ∃ g, w10.heap.size = g := ⟨_, rfl⟩
       have b13 : Blk W13 g13 28 #[.int .i64 v13, .slice va13 vs13.length vc13, .slice ra13 rr13.length rc13, .int .i64 u13] := by rw [← hW13, ← hg13]; exact Blk.new _ _ _
       have sA13 : Below w10.heap.size w10 W13 := by rw [← hW13]; exact (Below.refl _ _).alloc (Nat.le_refl _) _
       have HW13 := hide hW13
       have HG13 := hide hg13
       clear hW13 hg13
       go_upto_region 18 with (fail)
       rw [HW13.out, HG13.out]
       clear HW13 HG13
       have sb11 := sb10.trans (sA13.mono sb10.size)
       have hx11 := hx10.below sA13 (Nat.le_refl _)
       clear sA13 hx10 sb10
       have hc2 := HSV.out ls (some ⟨g, 0, none⟩) c W13 hx11 (by rw [HLL.out]; exact h10) (HOUT.out.xl HXL.out) (HOUT.out.right HRN.out) (HOUT.out.fair HFA.out)
       rw [HLL.out] at hc2
       have HC2 := hide hc2
       have HO13 := hide hO13
       clear hc2 hO13
       go_wp2_with fail
       refine HC2.out.mono ?_
       rintro e w12 ⟨hb12, v15, u15, va15, vc15, vs15, ra15, rc15, rr15, rfl, hO15, -⟩
       have sb12 := sb11.trans (hb12.mono sb11.size)
       replace b13 := b13.below hb12 b13.lt
       have hlaw := shift_law HOUT.out HO13.out hO15
       clear HC2 hb12 sb11 hx11 HO13 hO15 HOUT
       obtain ⟨W15, hW15⟩ : ∃ W, w12.alloc (.cells #[.int .i64 v15, .slice va15 vs15.length vc15, .slice ra15 rr15.length rc15, .int .i64 u15] 28) = W := ⟨_, rfl⟩
       obtain ⟨g15, hg15⟩ : ∃ g, w12.heap.size = g := ⟨_, rfl⟩
       have b15 : Blk W15 g15 28 #[.int .i64 v15, .slice va15 vs15.length vc15, .slice ra15 rr15.length rc15, .int .i64 u15] := by rw [← hW15, ← hg15]; exact Blk.new _ _ _
       have sA15 : Below w12.heap.size w12 W15 := by rw [← hW15]; exact (Below.refl _ _).alloc (Nat.le_refl _) _
       have HW15 := hide hW15
       have HG15 := hide hg15
       clear hW15 hg15
       go_upto_region 19 with (fail)
       rw [HW15.out, HG15.out]
       clear HW15 HG15
       have sb13 := sb12.trans (sA15.mono sb12.size)
       replace b13 := b13.below sA15 b13.lt
       clear sA15 sb12
       obtain ⟨x0', x1', x2', x3', -⟩ := b13.c4
       obtain ⟨y0', y1', y2', y3', -⟩ := b15.c4
       by_cases h1 : v13 = v15
       ·have e13 : (v13 == v15) = true := by simp [h1]
        clear hlaw h1
        go_wp2_with fail
        go_ret
        exact ⟨rfl, sb13⟩
       ·have e13 : (v13 == v15) = false := by simp [h1]
        by_cases h2 : v13 = 0
        ·have e14 : (v13 == 0) = true := by simp [h2]
         clear hlaw h1 h2
         go_wp2_with fail
         go_ret
         exact ⟨rfl, sb13⟩
        ·have h3 : v15 = 0 := by
          rcases hlaw with h | h | h
          ·exact (h1 h).elim
          ·exact (h2 h).elim
          ·exact h
         have e14 : (v13 == 0) = false := by simp [h2]
         have e15 : (v15 == 0) = true := by simp [h3]
         clear hlaw h1 h2 h3
         go_wp2_with fail
         go_ret
         exact ⟨rfl, sb13⟩
      ·have hj : j < rs.length := by omega
       have ej : (j : Int) < (rs.length : Int) := by omega
       obtain ⟨b, o, rfl, hr⟩ := HX.out (by omega)
       obtain ⟨r0, rfit, rcs, m0, m1, mok⟩ := ((hr j hj).below sb8 (Nat.le_refl _)).below hB (by rw [HNN.out]; exact Nat.le_refl _)
       obtain ⟨hrl, hmo, hrok⟩ := right_irow HRN.out hj
       have hrsz := (HS.out rs[j] (List.getElem_mem hj)).2
       obtain ⟨r, hrr⟩ : ∃ r, rs[j] = r := ⟨_, rfl⟩
       have hzt := times_val hj hrr
       have hmz : mostZ rs j = r.most.z := by
        unfold mostZ
        rw [List.getElem?_eq_getElem hj, hrr]
        rfl
       rw [hrr] at r0 rfit rcs m0 m1 mok hrl hrok hrsz hmo
       have HRR := hide hrr
       have HRL := hide hrl
       have HZT := hide hzt
       have hlz : ∀ c, len (timesZ rs j c * valZ x0 c) ≤ 2 := fun c => by
        have h1 := len_mul (timesZ rs j c) (valZ x0 c)
        have h2 := valZ_len HOK.out HVS.out c
        have h3 : len (timesZ rs j c) ≤ 1 := by rw [hzt]; exact valZ_len hrok hrsz.2 c
        omega
       have HLZ := hide hlz
       have HROK := hide hrok
       have HRSZ := hide hrsz
       rw [hrl] at r0
       obtain ⟨W2, hW2⟩ : ∃ W2, wr.alloc (.cells #[.slice r.at_ n r.cap, .bool r.most.neg, .slice r.most.at_ r.most.ds.length r.most.cap] 48) = W2 := ⟨_, rfl⟩
       obtain ⟨W3, hW3⟩ : ∃ W3, W2.alloc (.cells #[.bool r.most.neg, .slice r.most.at_ r.most.ds.length r.most.cap] 38) = W3 := ⟨_, rfl⟩
       obtain ⟨g12, hg12⟩ : ∃ g, wr.heap.size = g := ⟨_, rfl⟩
       obtain ⟨g13, hg13⟩ : ∃ g, W2.heap.size = g := ⟨_, rfl⟩
       have s2 : Below wr.heap.size wr W2 := by rw [← hW2]; exact (Below.refl _ _).alloc (Nat.le_refl _) _
       have s3 : Below g13 W2 W3 := by rw [← hW3, ← hg13]; exact (Below.refl _ _).alloc (Nat.le_refl _) _
       have b12 : Blk W2 g12 48 #[.slice r.at_ n r.cap, .bool r.most.neg, .slice r.most.at_ r.most.ds.length r.most.cap] := by rw [← hW2, ← hg12]; exact Blk.new _ _ _
       have b13 : Blk W3 g13 38 #[.bool r.most.neg, .slice r.most.at_ r.most.ds.length r.most.cap] := by rw [← hW3, ← hg13]; exact Blk.new _ _ _
       have hg1213 : g12 < g13 := by rw [← hg13]; exact b12.lt
       have hBq : N ≤ g13 := by rw [← hg13]; exact Nat.le_trans hBN s2.size
       have hB2 : Below N w8 W2 := hB.trans (s2.mono hBN)
       have hg13e : W2.heap.size ≤ g13 := Nat.le_of_eq hg13
       have HHE0 := hg13e
       have hml : len (mostZ rs j) ≤ 1 := by rw [hmz, Raw.len hmo]; exact hrsz.1
       have HML := hide hml
       have HM2 : Hid (N ≤ g ∧ MadeI W2 N 48 (.slice (some ⟨g, 0, none⟩) j c) ls ∧ NewL W2 rs ls j (shiftZ x0 rs n) ∧ Calm W2 g) := hide ⟨HM.out.1, own_stays HM.out.2.1 (fun k hk => s2.block k (HM.out.2.1.lt k hk).2), HM.out.2.2.1.below s2 (Nat.le_refl _), HM.out.2.2.2.below s2 (HM.out.2.1.lt g rfl).2⟩
       have HCS : Hid (IListAt W2 r.at_ r.xs) := hide (rcs.below s2 (Nat.le_refl _))
       have HVL : Hid (IListAt W2 a0 x0) := hide ((HV.out.below sb8 (Nat.le_refl _)).below hB2 (by rw [HNN.out]; exact Nat.le_refl _))
       have HGB : Hid (g < g13) := hide (by have := (HM.out.2.1.lt g rfl).2; omega)
       have HX0 : Hid (∃ (m : Bool) (a : Option Addr) (l k : Nat), Blk W3 g13 38 #[.bool m, .slice a l k] ∧ IntV W3 (.agg #[.bool m, .slice a l k]) ((mostZ rs j + sumI 0 fun c => timesZ rs j c * valZ x0 c))) := hide ⟨_, _, _, _, b13, by
        have e : mostZ rs j + sumI 0 (fun c => timesZ rs j c * valZ x0 c) = r.most.z := by
         show mostZ rs j + 0 = _
         rw [Int.add_zero, hmz]
        rw [e]
        exact ((mok.below s2 (Nat.le_refl _)).below s3 HHE0).intV hmo⟩
       have HW2 := hide hW2
       have HW3 := hide hW3
       have HG12 := hide hg12
       have HG13 : Hid (g12 + 1 = g13) := hide (by rw [← hg12, ← hg13, ← hW2]; simp)
       have HHE := hide hg13e
       have hg3l : g13 < W3.heap.size := b13.lt
       clear hW2 hW3 hg12 hg13 s2 b13 hB hBN HM rcs mok rfit hrr hrok hrsz hzt hr hlz hg13e HHE0 hml hmz hmo
       go_upto_region 10 with (fail)
       rw [HW2.out, HW3.out, HG12.out, HG13.out]
       clear HW2 HW3 HG12 HG13 r0 m0 m1
       have hy0 : W3.cell? ⟨g12, 0, none⟩ = some (.slice r.at_ n r.cap) := (b12.below s3 hg1213).cell 0
       obtain ⟨K0, hK0⟩ : ∃ K0, K0 = gk := ⟨_, rfl⟩
       subst hK0
       go_wp2_with fail
       go_loopg [62] n (fun k v62 wr => ∃ q : Nat, q + k = n ∧ v62 = .int .i64 (q : Int) ∧ Below g13 W2 wr ∧ g13 < wr.heap.size ∧ Hid (∃ (m : Bool) (a : Option Addr) (l k : Nat), Blk wr g13 38 #[.bool m, .slice a l k] ∧ IntV wr (.agg #[.bool m, .slice a l k]) ((mostZ rs j + sumI q fun c => timesZ rs j c * valZ x0 c))))
       case atStart => exact ⟨0, by omega, rfl, s3, hg3l, HX0⟩
       case round =>
        clear HX0 s3 hg3l
        obtain ⟨q, hqk, rfl, hBi, hg13s, HXB⟩ := hrel
        obtain ⟨xm, xa, xl, xk, bx, hxi⟩ := HXB.out
        have b12i := b12.below hBi hg1213
        have HM4 : Hid (N ≤ g ∧ MadeI wr N 48 (.slice (some ⟨g, 0, none⟩) j c) ls ∧ NewL wr rs ls j (shiftZ x0 rs n) ∧ Calm wr g) := hide ⟨HM2.out.1, own_stays HM2.out.2.1 (fun k hk => hBi.block k (by obtain rfl := Option.some.inj hk; exact HGB.out)), HM2.out.2.2.1.below hBi HHE.out, fun i z e => HM2.out.2.2.2 i z ((hBi.cell (p := ⟨g, i, none⟩) HGB.out).symm.trans e)⟩
        have k0 : wr.cell? ⟨g12, 0, none⟩ = some (.slice r.at_ n r.cap) := b12i.cell 0
        obtain ⟨k1, k2, -⟩ := bx.c2
        have hBw : Below N w8 wr := hB2.trans (hBi.mono hBq)
        have hNw : N ≤ wr.heap.size := by omega
        rcases Nat.eq_zero_or_pos gk with h1 | h1
        ·subst h1
         obtain rfl : n = q := by omega
         obtain ⟨R, rfl, rfl, rfl, rfl, hRo, hRf, hRz, hRl⟩ := hxi.raw (N := 20) (Nat.le_trans (shift_len HML.out HLZ.out n) (by omega)) (by decide)
         have hlen := HM4.out.2.2.1.len
         have how0 : wr.ownsRow N 48 3 (.slice (some ⟨g, 0, none⟩) j c) j (ls.flatMap LRow.cells) := by
          have h := HM4.out.2.1
          unfold MadeI at h
          rw [hlen] at h
          exact h
         obtain ⟨W4, hW4⟩ : ∃ W, wr.alloc (.cells #[.slice r.at_ n r.cap, .bool R.neg, .slice R.at_ R.ds.length R.cap] 48) = W := ⟨_, rfl⟩
         have s4 : Below wr.heap.size wr W4 := by rw [← hW4]; exact (Below.refl _ _).alloc (Nat.le_refl _) _
         have hNS : ∀ i u, ([.slice r.at_ n r.cap, .bool R.neg, .slice R.at_ R.ds.length R.cap] : List Value)[i]? = some u → W4.cell? ((⟨wr.heap.size, 0, none⟩ : Addr).add i) = some u := by rw [← hW4]; exact news_three _ _ _ _ _
         have HOW : Hid (W4.ownsRow N 48 3 (.slice (some ⟨g, 0, none⟩) j c) j (ls.flatMap LRow.cells)) := hide (own_stays how0 (fun k hk => s4.block k (how0.lt k hk).2))
         have HCA : Hid (∀ k, (Value.slice (some ⟨g, 0, none⟩) j c).ownBlock = some k → Calm W4 k) := hide (fun k hk => by
          obtain rfl := Option.some.inj hk
          exact HM4.out.2.2.2.below s4 (how0.lt _ rfl).2)
         have HNL : Hid (NewL W4 rs (ls ++ [⟨r.at_, r.cap, r.xs, R⟩]) (j + 1) (shiftZ x0 rs n)) := hide ((HM4.out.2.2.1.snoc hj HRR.out hRo hRf hRz hRl).below s4 (Nat.le_refl _))
         have HNS := hide hNS
         have HNU := hide (lrow_calm r.at_ R.at_ n r.cap R.ds.length R.cap R.neg)
         have HZU := hide zeroLRow_calm
         have hB4 : Below N w8 W4 := hBw.trans (s4.mono hNw)
         have hN4 : N ≤ W4.heap.size := Nat.le_trans hNw s4.size
         have HW4 := hide hW4
         obtain ⟨i0, hi0, hz0, hz1, hz2⟩ := info_parts infoLRow
         have hcell : ([⟨r.at_, r.cap, r.xs, R⟩] : List LRow).flatMap LRow.cells = [.slice r.at_ n r.cap, .bool R.neg, .slice R.at_ R.ds.length R.cap] := by
          have e : r.xs.length = n := HRL.out
          simp [LRow.cells, e]
         have HCE := hide hcell
         have HLE := hide hlen
         clear hW4 hNS s4 hRo hRf hRz hRl hcell hlen hxi bx b12i hBi hBw
         go_upto_region 15 with (fail)
         go_wp2_with (at_builtin; (try rw [HW4.out]); refine wpList_append_calm _ rfl (.tmp 76) (.tmp 81) 22 rfl N 48 i0 (.agg #[.slice none 0 0, .bool false, .slice none 0 0]) 3 56 Try.underlying22 hi0 hz0 hz1 hz2 rfl (by decide) (.slice (some ⟨g, 0, none⟩) j c) j (ls.flatMap LRow.cells) rfl HOW.out ⟨wr.heap.size, 0, none⟩ 1 1 [.slice r.at_ n r.cap, .bool R.neg, .slice R.at_ R.ds.length R.cap] rfl rfl HNS.out (by simp [Value.oneCell']) ?c4 ?c5 hN4 HCA.out HNU.out HZU.out ?_)
         case c4 => unfold maxLen; omega
         case c5 => omega
         intro v9 w1 hown hgrow hat hcalm
         have hB5 : Below N w8 w1 := hB4.grown hgrow (by omega) (fun k hk => by obtain rfl := Option.some.inj hk; exact HM4.out.1)
         have hN5 : N ≤ w1.heap.size := Nat.le_trans hN4 hgrow.size
         obtain ⟨g', cp, rfl⟩ : ∃ g' cp, v9 = .slice (some ⟨g', 0, none⟩) (j + 1) cp := by
          rcases hown.2 with ⟨_, h⟩ | ⟨g', cp, _, h, _⟩
          ·omega
          ·exact ⟨g', cp, h⟩
         have HM5 : Hid (N ≤ g' ∧ MadeI w1 N 48 (.slice (some ⟨g', 0, none⟩) (j + 1) cp) (ls ++ [⟨r.at_, r.cap, r.xs, R⟩]) ∧ NewL w1 rs (ls ++ [⟨r.at_, r.cap, r.xs, R⟩]) (j + 1) (shiftZ x0 rs n) ∧ Calm w1 g') := hide ⟨(hown.lt g' rfl).1, by
          unfold MadeI
          rw [List.flatMap_append, HCE.out, List.length_append, HLE.out]
          exact hown, HNL.out.grown hgrow HCA.out, hcalm g' rfl⟩
         clear hown hgrow hat hcalm HOW HCA HNL HNS HNU HM4 HM2 k0 k1 k2
         go_wp2_with fail
         go_roundg (K0 - 1)
         case measure => omega
         case rel => exact ⟨j + 1, g', cp, _, by omega, by go_num, rfl, hB5, hN5, HM5⟩
        ·have hq : q < n := by omega
         have eq : (q : Int) < (n : Int) := by omega
         obtain ⟨bA, oA, heA, hA⟩ := (HCS.out.below hBi HHE.out) (by rw [HRL.out]; omega)
         obtain ⟨bV, oV, rfl, hV⟩ := (HVL.out.below hBi HHE.out) (by rw [HN.out]; omega)
         have hqr : q < r.xs.length := by rw [HRL.out]; exact hq
         have hqv : q < x0.length := by rw [HN.out]; exact hq
         obtain ⟨en, ea, el, ek, t0, t1, hez⟩ := (hA q hqr).iat (HROK.out _ (List.getElem_mem hqr))
         obtain ⟨vn, va, vl, vk, t2, t3, hvz⟩ := (hV q hqv).iat (HOK.out _ (List.getElem_mem hqv))
         rw [← valZ_at hqr, ← HZT.out q] at hez
         rw [← valZ_at hqv] at hvz
         have se : Sm (timesZ rs j q) := by rw [HZT.out q]; exact Nat.le_trans (valZ_len HROK.out HRSZ.out.2 q) (by decide)
         have sv : Sm (valZ x0 q) := Nat.le_trans (valZ_len HOK.out HVS.out q) (by decide)
         have sp : Sm (timesZ rs j q * valZ x0 q) := Nat.le_trans (HLZ.out q) (by decide)
         have sx : Sm ((mostZ rs j + sumI q fun c => timesZ rs j c * valZ x0 c)) := Nat.le_trans (Nat.le_trans (shift_len HML.out HLZ.out q) (show 3 + q ≤ 100 by omega)) (by decide)
         obtain ⟨W6, hW6⟩ : ∃ W, wr.alloc (.cells #[.bool en, .slice ea el ek] 38) = W := ⟨_, rfl⟩
         obtain ⟨g6, hg6⟩ : ∃ g, wr.heap.size = g := ⟨_, rfl⟩
         have b6 : Blk W6 g6 38 #[.bool en, .slice ea el ek] := by rw [← hW6, ← hg6]; exact Blk.new _ _ _
         have s6 : Below wr.heap.size wr W6 := by rw [← hW6]; exact (Below.refl _ _).alloc (Nat.le_refl _) _
         have bx6 := bx.below s6 bx.lt
         have hBi6 : Below g13 W2 W6 := hBi.trans (s6.mono (Nat.le_of_lt hg13s))
         have hg6s : g13 < W6.heap.size := Nat.lt_of_lt_of_le hg13s s6.size
         have HEZ : Hid (IntV W6 (.agg #[.bool en, .slice ea el ek]) (timesZ rs j q)) := hide (hez.below s6 (Nat.le_refl _))
         have HVZ : Hid (IntV W6 (.agg #[.bool vn, .slice va vl vk]) (valZ x0 q)) := hide (hvz.below s6 (Nat.le_refl _))
         have HXI : Hid (IntV W6 (.agg #[.bool xm, .slice xa xl xk]) ((mostZ rs j + sumI q fun c => timesZ rs j c * valZ x0 c))) := hide (hxi.below s6 (Nat.le_refl _))
         have k1' := cellB k1 s6 (Nat.le_refl _)
         have k2' := cellB k2 s6 (Nat.le_refl _)
         have t2' := cellB t2 s6 (Nat.le_refl _)
         have t3' := cellB t3 s6 (Nat.le_refl _)
         have HW6 := hide hW6
         have HG6 := hide hg6
         have HEA := hide heA
         rw [heA]
         clear hez hvz hxi hA hV heA HM4 HXB b12i hW6 hg6 s6 k0
         go_upto_region 13 with (fail)
         rw [HW6.out, HG6.out]
         clear HW6 HG6 t0 t1 t2 t3 k1 k2
         obtain ⟨t0, t1, -⟩ := b6.c2
         refine wp_region_till (S := fun w' => w'.cell? ⟨g13, 0, none⟩ = some (.bool xm) ∧ w'.cell? ⟨g13, 1, none⟩ = some (.slice xa xl xk) ∧ w'.cell? ⟨g6, 0, none⟩ = some (.bool en) ∧ w'.cell? ⟨g6, 1, none⟩ = some (.slice ea el ek) ∧ w'.cell? ⟨bV, oV + q * 2, none⟩ = some (.bool vn) ∧ w'.cell? ⟨bV, oV + q * 2 + 1, none⟩ = some (.slice va vl vk) ∧ Below W6.heap.size W6 w') (fun i => decide (i < 8)) (by kernel_rfl) (⟨k1', k2', t0, t1, t2', t3', (Below.refl _ _).drew⟩) (fun hS => ?_)
         refine tkT 0 ⟨some 67, .load 38 (.tmp 10), 38, "law.go:148", #[], none⟩ hS ?_
         try simp only [Act.put, sB, sC, sD]
         refine tkT 1 ⟨some 68, .load 38 (.tmp 12), 38, "law.go:148", #[], none⟩ hS ?_
         try simp only [Act.put, sB, sC, sD]
         refine tkT 2 ⟨some 69, .move (.tmp 2), 25, "law.go:148", #[], none⟩ hS ?_
         try simp only [Act.put, sB, sC, sD]
         refine tkT 3 ⟨some 70, .move (.tmp 11), 3, "law.go:148", #[], none⟩ hS ?_
         try simp only [Act.put, sB, sC, sD]
         refine tkT 4 ⟨some 71, .indexAddr 25 (.tmp 69) (.tmp 70), 0, "law.go:148", #[eD 2, eD 3], none⟩ hS ?_
         try simp only [Act.put, sB, sC, sD]
         refine tkT 5 ⟨some 72, .load 38 (.tmp 71), 38, "law.go:148", #[eD 4], none⟩ hS ?_
         try simp only [Act.put, sB, sC, sD]
         refine Till_ready (rs := [6]) (by kernel_rfl) (by kernel_rfl) (by simp) ?_
         refine AllReadyT.cons (o := ⟨some 73, .call { callee := .value (.func 18), args := #[.tmp 68, .tmp 72], argTypes := #[38, 38] }, 38, "law.go:148", #[eD 1, eD 5], none⟩) rfl (fun K hK => ?_) AllReadyT.nil
         go_simp
         (go_at_call 18; (with_reducible refine (Mul_any _ (HEZ.out.below hS.2.2.2.2.2.2 (Nat.le_refl _)) (HVZ.out.below hS.2.2.2.2.2.2 (Nat.le_refl _)) se sv).mono ?_); rintro e wM ⟨rM, rfl, hM, hb1⟩)
         obtain ⟨mn, ma, ml, mk, rfl⟩ := hM.form
         have hwM := hS.2.2.2.2.2.2.trans (hb1.mono hS.2.2.2.2.2.2.size)
         have hXM := HXI.out.below hwM (Nat.le_refl _)
         go_wp2_with fail
         refine hK.out _ _ (⟨cellK hb1 hS.1, cellK hb1 hS.2.1, cellK hb1 hS.2.2.1, cellK hb1 hS.2.2.2.1, cellK hb1 hS.2.2.2.2.1, cellK hb1 hS.2.2.2.2.2.1, hS.2.2.2.2.2.2.trans (hb1.mono hS.2.2.2.2.2.2.size)⟩) (fun hS => ?_)
         clear hK K hb1
         try simp only [Act.put, sB, sC, sD]
         refine Till_ready (rs := [7]) (by kernel_rfl) (by kernel_rfl) (by simp) ?_
         refine AllReadyT.cons (o := ⟨some 74, .call { callee := .value (.func 17), args := #[.tmp 67, .tmp 73], argTypes := #[38, 38] }, 38, "law.go:148", #[eD 0, eD 6, eC 6], none⟩) rfl (fun K hK => ?_) AllReadyT.nil
         go_simp
         (go_at_call 17; (with_reducible refine (Add_any _ hXM hM sx sp).mono ?_); rintro e wN ⟨rN, rfl, hN, hb1⟩)
         obtain ⟨sn, sa, sl, sk, rfl⟩ := hN.form
         go_wp2_with fail
         refine hK.out _ _ (⟨cellK hb1 hS.1, cellK hb1 hS.2.1, cellK hb1 hS.2.2.1, cellK hb1 hS.2.2.2.1, cellK hb1 hS.2.2.2.2.1, cellK hb1 hS.2.2.2.2.2.1, hS.2.2.2.2.2.2.trans (hb1.mono hS.2.2.2.2.2.2.size)⟩) (fun hS => ?_)
         clear hK K hb1
         try simp only [Act.put, sB, sC, sD]
         refine Till_turn (by kernel_rfl) ?_
         refine wpAnyH_ready (rs := [8]) (by kernel_rfl) (by simp) ?_
         refine AllReadyH.cons (o := ⟨none, .store 38 (.tmp 10) (.tmp 74), 0, "law.go:148", #[eD 7, eC 7, eP 0, eP 1, eP 2, eP 3, eP 4, eP 5, eP 6, eP 7], none⟩) rfl (fun K hK => ?_) AllReadyH.nil
         have hBN : Below W6.heap.size W6 wN := hS.2.2.2.2.2.2
         have bxN := bx6.below hBN bx6.lt
         obtain ⟨z0, z1, -⟩ := bxN.c2
         have f0 := bxN.frozen 0
         have f1 := bxN.frozen 1
         have hCB : CB wN g13 38 2 := ⟨_, bxN, rfl, fun u hu => int_calm xm xa xl xk u (by simpa using hu)⟩
         obtain ⟨W5, hW5⟩ : ∃ W5, putL g13 wN 0 [.bool sn, .slice sa sl sk] = W5 := ⟨_, rfl⟩
         have HX5 : Hid (∃ (m : Bool) (a : Option Addr) (l k : Nat), Blk W5 g13 38 #[.bool m, .slice a l k] ∧ IntV W5 (.agg #[.bool m, .slice a l k]) ((mostZ rs j + sumI (q + 1) fun c => timesZ rs j c * valZ x0 c))) := hide ⟨sn, sa, sl, sk, by rw [← hW5]; exact (bxN.set_ 0 _).set_ 1 _, by rw [← hW5]; have e := hN.putL (o := 0) hCB (int_calm sn sa sl sk); rw [Int.add_assoc] at e; exact e⟩
         have hB5 : Below g13 W2 W5 := by rw [← hW5]; exact below_putL (hBi6.trans (hBN.mono (Nat.le_of_lt hg6s))) (Nat.le_refl _)
         have hg5 : g13 < W5.heap.size := by rw [← hW5, size_putL]; exact Nat.lt_of_lt_of_le hg6s hBN.size
         simp only [putL] at hW5
         have HW5 := hide hW5
         clear hW5 hCB bxN hBN
         go_simp
         refine hK.out _ _ trivial (fun _ => ?_)
         clear hK K z0 z1 f0 f1
         try simp only [Act.put, sB, sC, sD]
         refine wpAnyH_done (by kernel_rfl) ?_ _
         rw [HW5.out]
         clear HW5 hS k1' k2' t0 t1 t2' t3'
         go_wp2_with fail
         rw [← HEA.out]
         go_roundg (gk - 1)
         case measure => omega
         case rel => exact ⟨q + 1, by omega, by go_num, hB5, hg5, HX5⟩
end Go.Proofs.Ytphjffbldhhdiaa
