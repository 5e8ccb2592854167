/- collatorref01.Right and Same: by their contracts. -/
import Derived.Test.YthpibilefdmemaaDoorTwo
namespace Go.Proofs.YthpibilefdmemaaDoor
open Go.RowKit

set_option maxHeartbeats 800000 in
theorem RRight_any (neg : Bool) (a : Option Addr) (cap : Nat) (ds : List Nat) (w : World) (hd : Dg .u32 w a ds) (hn : ds.length ≤ 9223372036854775807) :
    Calls Tryd.prog 17 #[.agg #[.bool neg, .slice a ds.length cap]] w fun e w' => e = .returned (.bool (rightB neg ds)) ∧ Below w.heap.size w w' := by
  generalize hr : rightB neg ds = r
  have HR := hide hr
  clear hr
  have hb0 : Below w.heap.size w (w.alloc (.cells #[.bool neg, .slice a ds.length cap] 24)) := (Below.refl _ _).alloc (Nat.le_refl _) _
  have hX := Blk.new w 24 #[.bool neg, .slice a ds.length cap]
  have hd0 := hd.below hb0 (Nat.le_refl _)
  go_enter Tryd.func17, Tryd.ntmps17
  go_wp2_with fail
  generalize hW : w.alloc (.cells #[.bool neg, .slice a ds.length cap] 24) = W at hb0 hX hd0 ⊢
  clear hW
  obtain ⟨c0, c1, -⟩ := hX.c2
  go_loop [3] (fun v => ∃ j : Nat, j ≤ ds.length ∧ v = .int .i64 (j : Int) ∧ (ds.take j).all (fun d => decide (d < BB)) = true) (fun v => ds.length - (intOf v).toNat)
  case atStart => exact ⟨0, Nat.zero_le _, rfl, by simp⟩
  case round =>
    obtain ⟨j, hj, rfl, hall⟩ := hrel
    have HA := hide hall
    clear hall
    rcases Nat.lt_or_ge j ds.length with hlt | hge
    · obtain ⟨b, off, rfl, hc, _⟩ := hd0.at hlt
      have hsn := List.take_succ_eq_append_getElem hlt
      have hmem : ds[j] ∈ ds := List.getElem_mem hlt
      by_cases hbig : ds[j] < BB
      · have hlt2 : ¬ (999999999 : Int) < (ds[j] : Int) := by have := BB_eq; omega
        have HN : Hid ((ds.take (j + 1)).all (fun d => decide (d < BB)) = true) := hide (by rw [hsn, List.all_append, HA.out]; simp [hbig])
        generalize ds[j] = d at hc hlt2
        clear hsn hmem hbig
        go_wp2_with fail
        go_round
        case rel => exact ⟨j + 1, by omega, by go_num, HN.out⟩
        case measure => simp [intOf]; omega
      · have hge2 : (999999999 : Int) < (ds[j] : Int) := by have := BB_eq; omega
        have hf : rightB neg ds = false := by
          unfold rightB
          rw [if_neg (by intro h; rw [List.isEmpty_iff.1 h] at hlt; simp at hlt)]
          have : ds.all (fun d => decide (d < BB)) = false := by
            rw [List.all_eq_false]
            exact ⟨_, hmem, by simpa using hbig⟩
          rw [this]; rfl
        have HF := hide hf
        generalize ds[j] = d at hc hge2
        clear hsn hmem hbig hf
        go_wp2_with fail
        go_ret
        exact ⟨by rw [← HR.out, HF.out]; rfl, hb0⟩
    · obtain rfl : j = ds.length := by omega
      rcases Nat.eq_zero_or_pos ds.length with h0 | h0
      · obtain rfl := List.eq_nil_of_length_eq_zero h0
        go_wp2_with fail
        go_ret
        exact ⟨by rw [← HR.out]; rfl, hb0⟩
      · have e0 : ((ds.length : Int) == 0) = false := beq_eq_false_iff_ne.2 (by omega)
        obtain ⟨b, off, rfl, hc, _⟩ := hd0.at (i := ds.length - 1) (by omega)
        have hl : ds.getLastD 1 = ds[ds.length - 1] := by
          rcases snoc_cases ds with rfl | ⟨r, d, rfl⟩
          · simp at h0
          · simp
        have hv : rightB neg ds = !(ds[ds.length - 1] == 0) := by
          unfold rightB
          rw [if_neg (by intro h; rw [List.isEmpty_iff.1 h] at h0; simp at h0)]
          have h := HA.out
          rw [List.take_length] at h
          rw [h, hl]; rfl
        have HV := hide hv
        generalize ds[ds.length - 1] = d at hc HV
        clear hl hv
        cases hz : (d == 0) with
        | true =>
          obtain rfl : d = 0 := by simpa using hz
          go_wp2_with fail
          go_ret
          exact ⟨by rw [← HR.out, HV.out]; rfl, hb0⟩
        | false =>
          have e1 : ((d : Int) != 0) = true := by simp at hz ⊢; omega
          have e2 : ((d : Int) == 0) = false := by simp at hz ⊢; omega
          go_wp2_with fail
          go_ret
          exact ⟨by rw [← HR.out, HV.out, hz]; rfl, hb0⟩

set_option maxRecDepth 100000 in
set_option maxHeartbeats 1600000 in
theorem Same_raw (n m : Bool) (a b : Option Addr) (ca cb : Nat) (x y : List Nat) (w : World) (hx : Dg .u32 w a x) (hy : Dg .u32 w b y) (hl : x.length ≤ 1099511627776) :
    Calls Tryd.prog 14 #[.agg #[.bool n, .slice a x.length ca], .agg #[.bool m, .slice b y.length cb]] w fun e w' => e = .returned (.bool (decide (n = m ∧ x = y))) ∧ Below w.heap.size w w' := by
  generalize hr : decide (n = m ∧ x = y) = r
  have HR := hide hr
  clear hr
  have hX0 := Blk.new w 24 #[.bool n, .slice a x.length ca]
  have hX := hX0.alloc (.cells #[.bool m, .slice b y.length cb] 24)
  have hY := Blk.new (w.alloc (.cells #[.bool n, .slice a x.length ca] 24)) 24 #[.bool m, .slice b y.length cb]
  have hb0 : Below w.heap.size w ((w.alloc (.cells #[.bool n, .slice a x.length ca] 24)).alloc (.cells #[.bool m, .slice b y.length cb] 24)) := ((Below.refl _ _).alloc (Nat.le_refl _) _).alloc (by simp) _
  clear hX0
  have hx0 := hx.below hb0 (Nat.le_refl _)
  have hy0 := hy.below hb0 (Nat.le_refl _)
  by_cases hnm : n = m
  · subst hnm
    by_cases hlen : x.length = y.length
    · have e0 : ((x.length : Int) != (y.length : Int)) = false := by simp; omega
      have e0' : ((x.length : Int) == (y.length : Int)) = true := by simp; omega
      have HL := hide hlen
      clear hlen
      go_enter Tryd.func14, Tryd.ntmps14
      have hsz : (w.alloc (.cells #[.bool n, .slice a x.length ca] 24)).heap.size = w.heap.size + 1 := by simp
      rw [hsz] at hY
      obtain ⟨c0, c1, cf⟩ := hX.c2
      obtain ⟨d0, d1, df⟩ := hY.c2
      go_wp2_with fail
      generalize (w.alloc (.cells #[.bool n, .slice a x.length ca] 24)).alloc (.cells #[.bool n, .slice b y.length cb] 24) = W at *
      go_loopg [5] x.length (fun k v wr => ∃ (j q : Nat), j + k = x.length ∧ v = .int .i64 (j : Int) ∧ Hid (x.take j = y.take j) ∧ wr = W.drewN q)
      case atStart => exact ⟨0, 0, by omega, rfl, hide (by simp), rfl⟩
      case round =>
        obtain ⟨j, q, hjk, rfl, HT, rfl⟩ := hrel
        rcases Nat.eq_zero_or_pos gk with h0 | h0
        · subst h0
          obtain rfl : j = x.length := by omega
          have HV : Hid (decide (True ∧ x = y) = true) := hide (by
            have h := HT.out
            rw [List.take_length, HL.out, List.take_length] at h
            simp [h])
          go_wp2_with fail
          go_ret
          exact ⟨by rw [← HR.out, HV.out]; rfl, below_drewN hb0 _⟩
        · have hj1 : j < x.length := by omega
          have hj2 : j < y.length := by have := HL.out; omega
          obtain ⟨p, po, rfl, hc, _⟩ := hx0.at hj1
          obtain ⟨p', po', rfl, hd, _⟩ := hy0.at hj2
          have HU1 : Hid (x[j] = y[j] → x.take (j + 1) = y.take (j + 1)) := hide (fun h => by
            rw [List.take_succ_eq_append_getElem hj1, List.take_succ_eq_append_getElem hj2, HT.out, h])
          have HU2 : Hid (x[j] ≠ y[j] → decide (True ∧ x = y) = false) := hide (fun h => by
            simp
            rintro rfl
            exact h rfl)
          generalize x[j] = c at hc HU1 HU2
          generalize y[j] = d at hd HU1 HU2
          by_cases hcd : c = d
          · subst hcd
            have HV := hide (HU1.out rfl)
            have t1 : ((c : Int) != (c : Int)) = false := by simp
            clear HU1 HU2
            go_wp2_with fail
            go_quiet (fail)
            go_wp2_with fail
            go_roundg (gk - 1)
            case measure => omega
            case rel => exact ⟨j + 1, _, by omega, by go_num, HV, rfl⟩
          · have HV := hide (HU2.out hcd)
            have t1 : ((c : Int) != (d : Int)) = true := by simp; omega
            have t1' : ((c : Int) == (d : Int)) = false := by simp; omega
            clear HU1 HU2
            go_wp2_with fail
            go_quiet (fail)
            go_wp2_with fail
            go_ret
            refine ⟨by rw [← HR.out, HV.out]; rfl, ?_⟩
            obtain ⟨k, hk⟩ := @drew2 W q _
            rw [hk]
            exact below_drewN hb0 _
    · have e0 : ((x.length : Int) != (y.length : Int)) = true := by simp; omega
      have HV : Hid (decide (n = n ∧ x = y) = false) := hide (by simp; intro h; rw [h] at hlen; exact hlen rfl)
      go_enter Tryd.func14, Tryd.ntmps14
      go_wp2_with fail
      go_ret
      exact ⟨by rw [← HR.out, HV.out]; rfl, hb0⟩
  · have HV : Hid (decide (n = m ∧ x = y) = false) := hide (by simp; intro h; exact absurd h hnm)
    have e0 : (n != m) = true := by cases n <;> cases m <;> simp at hnm ⊢
    go_enter Tryd.func14, Tryd.ntmps14
    go_wp2_with fail
    go_ret
    exact ⟨by rw [← HR.out, HV.out]; rfl, hb0⟩

theorem Same_any {x y : Int} {u v : Value} (w : World) (hx : IntV w u x) (hy : IntV w v y) (hn : Sm x) :
    Calls Tryd.prog 14 #[u, v] w fun e w' => e = .returned (.bool (decide (x = y))) ∧ Below w.heap.size w w' := by
  obtain ⟨a, ca, rfl, _, hd⟩ := hx
  obtain ⟨b, cb, rfl, _, he⟩ := hy
  have e : decide (decide (x < 0) = decide (y < 0) ∧ dg BB x.natAbs = dg BB y.natAbs) = decide (x = y) := by
    have h : (decide (x < 0) = decide (y < 0) ∧ dg BB x.natAbs = dg BB y.natAbs) ↔ x = y := by
      constructor
      · rintro ⟨h1, h2⟩
        have h3 : x.natAbs = y.natAbs := by rw [← dg_val BB2 x.natAbs, h2, dg_val BB2]
        have h4 : x < 0 ↔ y < 0 := by simpa using h1
        omega
      · rintro rfl; exact ⟨rfl, rfl⟩
    exact decide_eq_decide.2 h
  rw [← e]
  exact Same_raw _ _ a b ca cb _ _ w hd he hn
end Go.Proofs.YthpibilefdmemaaDoor
