/- whole.Small: by its contract. -/
import Derived.Test.YthpibilefdmemaaDoorTwo
namespace Go.Proofs.YthpibilefdmemaaDoor
open Go.RowKit

/-- What Small leaves. -/
def SmallPost (w : World) (x : Int) (e : Ending) (w' : World) : Prop :=
  e = .returned (.tuple #[.int .i64 (if x.natAbs ≤ 4611686018427387904 then x else 0), .bool (decide (x.natAbs ≤ 4611686018427387904))]) ∧ Below w.heap.size w w'

theorem val_drop {b : Nat} {ds : List Nat} {j : Nat} (hj : j < ds.length) : val b (ds.drop j) = ds[j] + b * val b (ds.drop (j + 1)) := by
  rw [List.drop_eq_getElem_cons hj]; rfl
theorem val_drop_le {b : Nat} (hb : 0 < b) (ds : List Nat) (j : Nat) : val b (ds.drop j) ≤ val b ds := by
  induction ds generalizing j with
  | nil => simp
  | cons d r ih =>
    cases j with
    | zero => simp
    | succ j =>
      have h1 := ih j
      have h2 : val b r ≤ b * val b r := Nat.le_mul_of_pos_left _ hb
      simp only [List.drop_succ_cons]
      show _ ≤ d + b * val b r
      omega

set_option maxRecDepth 100000 in
set_option maxHeartbeats 1600000 in
theorem Small_any {x : Int} {u : Value} (w : World) (hx : IntV w u x) (hn : Sm x) :
    Calls Tryd.prog 20 #[u] w (SmallPost w x) := by
  generalize hP : SmallPost w x = Post
  have HP := hide hP
  clear hP
  obtain ⟨a, ca, rfl, ha, hda⟩ := id hx
  have HX0 := hx
  clear hx
  have hX0 : Blk (w.alloc (.cells #[.bool (decide (x < 0)), .slice a (dg BB x.natAbs).length ca] 24)) w.heap.size 24 #[.bool (decide (x < 0)), .slice a (dg BB x.natAbs).length ca] := Blk.new w _ _
  have hB0 : Below w.heap.size w (w.alloc (.cells #[.bool (decide (x < 0)), .slice a (dg BB x.natAbs).length ca] 24)) := (Below.refl _ _).alloc (Nat.le_refl _) _
  go_enter Tryd.func20, Tryd.ntmps20
  go_wp2_with fail
  generalize w.alloc (.cells #[.bool (decide (x < 0)), .slice a (dg BB x.natAbs).length ca] 24) = W at hX0 hB0 ⊢
  have cxn := dg_canon BB2 x.natAbs
  have dxn : Digs BB (dg BB x.natAbs) := cxn.1
  have hsx : (dg BB x.natAbs).length ≤ 1099511627776 := hn
  have HV : Hid (val BB (dg BB x.natAbs) = x.natAbs) := hide (dg_val BB2 _)
  have HNX : Hid (x = signZ (decide (x < 0)) x.natAbs) := hide (by
    by_cases h0 : x < 0
    · simp [signZ, h0]; omega
    · simp [signZ, h0]; omega)
  refine (right_at HX0 hn hB0).mono ?_
  rintro e w1 ⟨rfl, hb1⟩
  have hX1 := hX0.below hb1 hX0.lt
  have hB1 : Below w.heap.size w w1 := hB0.trans (hb1.mono hB0.size)
  clear hX0 hB0 hb1
  generalize decide (x < 0) = nx at *
  generalize dg BB x.natAbs = dx at *
  have hX2 := hX1.two (.bool nx) (.slice a dx.length ca)
  have hB2 := (hB1.setCell (p := ⟨w.heap.size, 0, none⟩) (Nat.le_refl _) (.bool nx)).setCell (p := ⟨w.heap.size, 1, none⟩) (Nat.le_refl _) (.slice a dx.length ca)
  obtain ⟨c0, c1, cf⟩ := hX1.c2
  have hl1 := hX1.lt
  go_upto_region 3 with (fail)
  generalize (w1.setCell _ _).setCell _ _ = W1 at hX2 hB2 ⊢
  clear c0 c1 cf hX1 hB1 hl1
  obtain ⟨c0, c1, cf⟩ := hX2.c2
  have hda1 := hda.below hB2 (Nat.le_refl _)
  have hBB := BB_eq
  have big3 : 3 < dx.length → 4611686018427387904 < val BB dx := fun h => by
    have h1 := val_drop (b := BB) (ds := dx) (j := 0) (by omega)
    have h2 := val_drop (b := BB) (ds := dx) (j := 1) (by omega)
    have h3 := val_drop (b := BB) (ds := dx) (j := 2) (by omega)
    have h4 : 0 < val BB (dx.drop (2 + 1)) := by
      refine Canon.pos (by omega) ?_ (by intro h; rw [List.drop_eq_nil_iff] at h; omega)
      refine ⟨dxn.drop _, ?_⟩
      rw [List.getLast?_drop, if_neg (by omega)]
      exact cxn.2
    simp only [List.drop_zero] at h1
    rw [h1, h2, h3]
    generalize val BB (dx.drop (2 + 1)) = V3 at h4
    rw [BB_eq]
    omega
  have v3 : ∀ h : dx.length = 3, val BB dx = dx[0] + 1000000000 * (dx[1] + 1000000000 * dx[2]) := fun h => by
    have h1 := val_drop (b := BB) (ds := dx) (j := 0) (by omega)
    have h2 := val_drop (b := BB) (ds := dx) (j := 1) (by omega)
    have h3 := val_drop (b := BB) (ds := dx) (j := 2) (by omega)
    have h4 : val BB (dx.drop 3) = 0 := by rw [List.drop_of_length_le (by omega)]; rfl
    simp only [List.drop_zero] at h1
    rw [h1, h2, h3, h4, BB_eq, Nat.mul_zero, Nat.add_zero]
  rcases Nat.lt_or_ge 3 dx.length with h3 | h3
  · have hd3 : decide ((3 : Int) < dx.length) = true := by simp; omega
    have hbig := big3 h3
    have HB := hide hbig
    clear big3 v3 hBB hbig
    go_wp2_with fail
    rw [← HP.out]
    have hb := HB.out
    rw [HV.out] at hb
    refine ⟨?_, hB2⟩
    have hb' : ¬ x.natAbs ≤ 4611686018427387904 := by omega
    rw [if_neg hb', decide_eq_false hb']
    rfl
  · have hd3 : decide ((3 : Int) < dx.length) = false := by simp; omega
    by_cases h33 : dx.length = 3
    · have he3 : ((dx.length : Int) == 3) = true := by simp; omega
      have hv3 := v3 h33
      obtain ⟨b1, o1, rfl, hc1, hl1⟩ := hda1.at (i := 2) (by omega)
      have d0 := dxn.at (i := 0) (by omega)
      have d1 := dxn.at (i := 1) (by omega)
      have d2 := dxn.at (i := 2) (by omega)
      rw [BB_eq] at d0 d1 d2
      rcases Nat.lt_or_ge 4 dx[2] with h4 | h4
      · have hd4 : decide (4 < dx[2]) = true := by simp; omega
        have HB := hide (show 4611686018427387904 < val BB dx by rw [hv3]; omega)
        clear big3 v3 hBB hv3 d0 d1
        generalize dx[2] = dd at *
        go_wp2_with fail
        rw [← HP.out]
        have hb := HB.out
        rw [HV.out] at hb
        refine ⟨?_, hB2⟩
        have hb' : ¬ x.natAbs ≤ 4611686018427387904 := by omega
        rw [if_neg hb', decide_eq_false hb']
        rfl
      · have hd4 : decide (4 < dx[2]) = false := by simp; omega
        have HL := hide (show val BB dx < 5000000000000000000 by rw [hv3]; omega)
        clear big3 v3 hBB hv3 d0 d1
        have hc3 := hc1
        have hd5 : decide ((4 : Int) < (dx[2] : Int)) = false := by simp; omega
        have hgt2 : 2 < dx.length := by omega
        clear hc1
        generalize dx[2] = dd at hc3 hd4 hd5 d2 h4
        clear h33
        have s0 : val BB (dx.drop dx.length) = 0 := by simp [val]
        have S0 := hide s0
        clear s0
        go_wp2_with fail
        clear he3 hd4 hd5 hc3
        go_loopg [5, 6] dx.length (fun r v i wr => W1 = wr ∧ ∃ (V : Nat) (iz : Int), v = .int .i64 (V : Int) ∧ i = .int .i64 iz ∧ r ≤ dx.length ∧ Hid (V = val BB (dx.drop r)) ∧ Hid (iz + 1 = (r : Int)))
        case atStart => exact ⟨rfl, 0, _, rfl, rfl, Nat.le_refl _, hide S0.out.symm, hide (by omega)⟩
        case round =>
          obtain ⟨rfl, V, iz, rfl, rfl, hr, HV1, HI⟩ := hrel
          have hVlim : V < 5000000000000000000 := by
            have h1 := HV1.out
            have h2 := val_drop_le (b := BB) (by rw [BB_eq]; decide) dx gk
            have h3 := HL.out
            omega
          rcases Int.lt_or_le iz 0 with h0 | h0
          · obtain rfl : iz = -1 := by have := HI.out; omega
            have hg0 : gk = 0 := by have := HI.out; omega
            have HE : Hid (V = x.natAbs) := hide (by rw [HV1.out, hg0, List.drop_zero, HV.out])
            by_cases hgt : V ≤ 4611686018427387904
            · have hgd : decide ((4611686018427387904 : Int) < (V : Int)) = false := by simp; omega
              cases nx with
              | true =>
                go_wp2_with fail
                rw [← HP.out]
                refine ⟨?_, hB2⟩
                have e1 := HE.out
                have e2 := HNX.out
                rw [← e1, if_pos hgt, decide_eq_true hgt, e2, ← e1]
                simp [signZ]
              | false =>
                go_wp2_with fail
                rw [← HP.out]
                refine ⟨?_, hB2⟩
                have e1 := HE.out
                have e2 := HNX.out
                rw [← e1, if_pos hgt, decide_eq_true hgt, e2, ← e1]
                simp [signZ]
            · have hgd : decide ((4611686018427387904 : Int) < (V : Int)) = true := by simp; omega
              go_wp2_with fail
              rw [← HP.out]
              refine ⟨?_, hB2⟩
              have e1 := HE.out
              rw [← e1, if_neg hgt, decide_eq_false hgt]
              rfl
          · obtain ⟨k, rfl⟩ := Int.eq_ofNat_of_zero_le h0
            have hk : gk = k + 1 := by have := HI.out; omega
            have hkl : k < dx.length := by omega
            obtain ⟨bk, ok, ek, hck, hlk⟩ := hda1.at (i := k) hkl
            obtain ⟨rfl, rfl⟩ : b1 = bk ∧ o1 = ok := by simpa using ek
            have HS := hide (val_drop (b := BB) hkl)
            have hdk := dxn.at hkl
            rw [BB_eq] at hdk
            generalize dx[k] = dk at *
            have HV2 : Hid (dk + 1000000000 * V = val BB (dx.drop k)) := hide (by rw [HV1.out, hk, HS.out, BB_eq])
            have hlim2 : dk + 1000000000 * V < 5000000000000000000 := by
              have h1 := HV2.out
              have h2 := val_drop_le (b := BB) (by rw [BB_eq]; decide) dx k
              have h3 := HL.out
              omega
            go_wp2_with fail
            go_roundg k
            case measure => omega
            case rel => exact ⟨rfl, dk + 1000000000 * V, _, by go_num, rfl, by omega, hide HV2.out, hide (by omega)⟩
    · have he3 : ((dx.length : Int) == 3) = false := by simp; omega
      have HL := hide (show val BB dx < 5000000000000000000 by
        have h1 := val_lt dxn
        have h2 : BB ^ dx.length ≤ BB ^ 2 := Nat.pow_le_pow_right (by omega) (by omega)
        have h3 : BB ^ 2 = 1000000000000000000 := by rw [BB_eq]
        omega)
      clear big3 v3 hBB
      have s0 : val BB (dx.drop dx.length) = 0 := by simp [val]
      have S0 := hide s0
      clear s0
      go_wp2_with fail
      clear he3
      go_loopg [5, 6] dx.length (fun r v i wr => W1 = wr ∧ ∃ (V : Nat) (iz : Int), v = .int .i64 (V : Int) ∧ i = .int .i64 iz ∧ r ≤ dx.length ∧ Hid (V = val BB (dx.drop r)) ∧ Hid (iz + 1 = (r : Int)))
      case atStart => exact ⟨rfl, 0, _, rfl, rfl, Nat.le_refl _, hide S0.out.symm, hide (by omega)⟩
      case round =>
        obtain ⟨rfl, V, iz, rfl, rfl, hr, HV1, HI⟩ := hrel
        have hVlim : V < 5000000000000000000 := by
          have h1 := HV1.out
          have h2 := val_drop_le (b := BB) (by rw [BB_eq]; decide) dx gk
          have h3 := HL.out
          omega
        rcases Int.lt_or_le iz 0 with h0 | h0
        · obtain rfl : iz = -1 := by have := HI.out; omega
          have hg0 : gk = 0 := by have := HI.out; omega
          have HE : Hid (V = x.natAbs) := hide (by rw [HV1.out, hg0, List.drop_zero, HV.out])
          by_cases hgt : V ≤ 4611686018427387904
          · have hgd : decide ((4611686018427387904 : Int) < (V : Int)) = false := by simp; omega
            cases nx with
            | true =>
              go_wp2_with fail
              rw [← HP.out]
              refine ⟨?_, hB2⟩
              have e1 := HE.out
              have e2 := HNX.out
              rw [← e1, if_pos hgt, decide_eq_true hgt, e2, ← e1]
              simp [signZ]
            | false =>
              go_wp2_with fail
              rw [← HP.out]
              refine ⟨?_, hB2⟩
              have e1 := HE.out
              have e2 := HNX.out
              rw [← e1, if_pos hgt, decide_eq_true hgt, e2, ← e1]
              simp [signZ]
          · have hgd : decide ((4611686018427387904 : Int) < (V : Int)) = true := by simp; omega
            go_wp2_with fail
            rw [← HP.out]
            refine ⟨?_, hB2⟩
            have e1 := HE.out
            rw [← e1, if_neg hgt, decide_eq_false hgt]
            rfl
        · obtain ⟨k, rfl⟩ := Int.eq_ofNat_of_zero_le h0
          have hk : gk = k + 1 := by have := HI.out; omega
          have hkl : k < dx.length := by omega
          obtain ⟨bk, ok, ek, hck, hlk⟩ := hda1.at (i := k) hkl
          subst ek
          have HS := hide (val_drop (b := BB) hkl)
          have hdk := dxn.at hkl
          rw [BB_eq] at hdk
          generalize dx[k] = dk at *
          have HV2 : Hid (dk + 1000000000 * V = val BB (dx.drop k)) := hide (by rw [HV1.out, hk, HS.out, BB_eq])
          have hlim2 : dk + 1000000000 * V < 5000000000000000000 := by
            have h1 := HV2.out
            have h2 := val_drop_le (b := BB) (by rw [BB_eq]; decide) dx k
            have h3 := HL.out
            omega
          go_wp2_with fail
          go_roundg k
          case measure => omega
          case rel => exact ⟨rfl, dk + 1000000000 * V, _, by go_num, rfl, by omega, hide HV2.out, hide (by omega)⟩
end Go.Proofs.YthpibilefdmemaaDoor
