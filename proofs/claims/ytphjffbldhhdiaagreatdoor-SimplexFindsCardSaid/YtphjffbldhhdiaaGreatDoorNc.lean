/- Texts in one file: RSmall, DecLaw, Fmt, Builder, Text, Lead, Small, Three, Parse, RuleLaw, NumLaw. -/
import Derived.Test.YtphjffbldhhdiaaGreatDoorNa
import Derived.Lib.ItoaNum
import Derived.Test.YtphjffbldhhdiaaGreatDoorShelf
import Derived.Lib.Walk
import Derived.Lib.ItoaWalk
import Derived.Lib.ItoaMem
import Derived.Lib.AppendIntMem
import Derived.Lib.Strings
import Derived.Lib.Slices
import Derived.Lib.Builder
import Derived.Lib.AppendStr
import Derived.Lib.UnsafeStr
import Derived.Test.YtphjffbldhhdiaaGreatDoorNb
import Derived.Test.YtphjffbldhhdiaaGreatDoorRows
import Derived.WalkKit
import Derived.ProofKit
import Derived.OpenShut
import Derived.ShutString
import Derived.ChangeOld
import Derived.ChangeMaps5
import Derived.ChangeArms
import Derived.ChangeSlices
import Derived.Below
import Derived.Carry
import Derived.LaidMore
import Derived.LaidSub
import Derived.Lay
import Derived.SevenTiedAt
import Derived.Stop.Joined
import Derived.HandedShaped
import Derived.Shelf.Vars
import Derived.Lib.SmallJoins
import Derived.Lib.LaidTab
namespace Go.Proofs.YtphjffbldhhdiaaGreatDoor
open Go.RowKit

set_option maxHeartbeats 800000 in
theorem RRight_any (neg : Bool) (a : Option Addr) (cap : Nat) (ds : List Nat) (w : World) (hd : Dg .u32 w a ds) (hn : ds.length ≤ 9223372036854775807) :
    Calls Tryz.prog 34 #[.agg #[.bool neg, .slice a ds.length cap]] w fun e w' => e = .returned (.bool (rightB neg ds)) ∧ Below w.heap.size w w' := by
  generalize hr : rightB neg ds = r
  have HR := hide hr
  clear hr
  have hb0 : Below w.heap.size w (w.alloc (.cells #[.bool neg, .slice a ds.length cap] 37)) := (Below.refl _ _).alloc (Nat.le_refl _) _
  have hX := Blk.new w 37 #[.bool neg, .slice a ds.length cap]
  have hd0 := hd.below hb0 (Nat.le_refl _)
  go_enter Tryz.func34, Tryz.ntmps34
  go_wp2_with fail
  generalize hW : w.alloc (.cells #[.bool neg, .slice a ds.length cap] 37) = W at hb0 hX hd0 ⊢
  clear hW
  obtain ⟨c0, c1, -⟩ := hX.c2
  go_loop [3] (fun v => ∃ j : Nat, j ≤ ds.length ∧ v = .int .i64 (j : Int) ∧ (ds.take j).all (fun d => decide (d < BB)) = true) (fun v => ds.length - (intOf v).toNat)
  case atStart => exact ⟨0, Nat.zero_le _, rfl, by simp⟩
  case round =>
    obtain ⟨j, hj, rfl, hall⟩ := hrel
    have HA := hide hall
    clear hall
    rcases Nat.lt_or_ge j ds.length with hlt | hge
    · obtain ⟨b, off, rfl, hc, _⟩ := hd0.at hlt
      have hsn := List.take_succ_eq_append_getElem hlt
      have hmem : ds[j] ∈ ds := List.getElem_mem hlt
      by_cases hbig : ds[j] < BB
      · have hlt2 : ¬ (999999999 : Int) < (ds[j] : Int) := by have := BB_eq; omega
        have HN : Hid ((ds.take (j + 1)).all (fun d => decide (d < BB)) = true) := hide (by rw [hsn, List.all_append, HA.out]; simp [hbig])
        generalize ds[j] = d at hc hlt2
        clear hsn hmem hbig
        go_wp2_with fail
        go_round
        case rel => exact ⟨j + 1, by omega, by go_num, HN.out⟩
        case measure => simp [intOf]; omega
      · have hge2 : (999999999 : Int) < (ds[j] : Int) := by have := BB_eq; omega
        have hf : rightB neg ds = false := by
          unfold rightB
          rw [if_neg (by intro h; rw [List.isEmpty_iff.1 h] at hlt; simp at hlt)]
          have : ds.all (fun d => decide (d < BB)) = false := by
            rw [List.all_eq_false]
            exact ⟨_, hmem, by simpa using hbig⟩
          rw [this]; rfl
        have HF := hide hf
        generalize ds[j] = d at hc hge2
        clear hsn hmem hbig hf
        go_wp2_with fail
        go_ret
        exact ⟨by rw [← HR.out, HF.out]; rfl, hb0⟩
    · obtain rfl : j = ds.length := by omega
      rcases Nat.eq_zero_or_pos ds.length with h0 | h0
      · obtain rfl := List.eq_nil_of_length_eq_zero h0
        go_wp2_with fail
        go_ret
        exact ⟨by rw [← HR.out]; rfl, hb0⟩
      · have e0 : ((ds.length : Int) == 0) = false := beq_eq_false_iff_ne.2 (by omega)
        obtain ⟨b, off, rfl, hc, _⟩ := hd0.at (i := ds.length - 1) (by omega)
        have hl : ds.getLastD 1 = ds[ds.length - 1] := by
          rcases snoc_cases ds with rfl | ⟨r, d, rfl⟩
          · simp at h0
          · simp
        have hv : rightB neg ds = !(ds[ds.length - 1] == 0) := by
          unfold rightB
          rw [if_neg (by intro h; rw [List.isEmpty_iff.1 h] at h0; simp at h0)]
          have h := HA.out
          rw [List.take_length] at h
          rw [h, hl]; rfl
        have HV := hide hv
        generalize ds[ds.length - 1] = d at hc HV
        clear hl hv
        cases hz : (d == 0) with
        | true =>
          obtain rfl : d = 0 := by simpa using hz
          go_wp2_with fail
          go_ret
          exact ⟨by rw [← HR.out, HV.out]; rfl, hb0⟩
        | false =>
          have e1 : ((d : Int) != 0) = true := by simp at hz ⊢; omega
          have e2 : ((d : Int) == 0) = false := by simp at hz ⊢; omega
          go_wp2_with fail
          go_ret
          exact ⟨by rw [← HR.out, HV.out, hz]; rfl, hb0⟩

set_option maxRecDepth 100000 in
set_option maxHeartbeats 1600000 in
theorem Same_raw (n m : Bool) (a b : Option Addr) (ca cb : Nat) (x y : List Nat) (w : World) (hx : Dg .u32 w a x) (hy : Dg .u32 w b y) (hl : x.length ≤ 1099511627776) :
    Calls Tryz.prog 45 #[.agg #[.bool n, .slice a x.length ca], .agg #[.bool m, .slice b y.length cb]] w fun e w' => e = .returned (.bool (decide (n = m ∧ x = y))) ∧ Below w.heap.size w w' := by
  generalize hr : decide (n = m ∧ x = y) = r
  have HR := hide hr
  clear hr
  have hX0 := Blk.new w 37 #[.bool n, .slice a x.length ca]
  have hX := hX0.alloc (.cells #[.bool m, .slice b y.length cb] 37)
  have hY := Blk.new (w.alloc (.cells #[.bool n, .slice a x.length ca] 37)) 37 #[.bool m, .slice b y.length cb]
  have hb0 : Below w.heap.size w ((w.alloc (.cells #[.bool n, .slice a x.length ca] 37)).alloc (.cells #[.bool m, .slice b y.length cb] 37)) := ((Below.refl _ _).alloc (Nat.le_refl _) _).alloc (by simp) _
  clear hX0
  have hx0 := hx.below hb0 (Nat.le_refl _)
  have hy0 := hy.below hb0 (Nat.le_refl _)
  by_cases hnm : n = m
  · subst hnm
    by_cases hlen : x.length = y.length
    · have e0 : ((x.length : Int) != (y.length : Int)) = false := by simp; omega
      have e0' : ((x.length : Int) == (y.length : Int)) = true := by simp; omega
      have HL := hide hlen
      clear hlen
      go_enter Tryz.func45, Tryz.ntmps45
      have hsz : (w.alloc (.cells #[.bool n, .slice a x.length ca] 37)).heap.size = w.heap.size + 1 := by simp
      rw [hsz] at hY
      obtain ⟨c0, c1, cf⟩ := hX.c2
      obtain ⟨d0, d1, df⟩ := hY.c2
      go_wp2_with fail
      generalize (w.alloc (.cells #[.bool n, .slice a x.length ca] 37)).alloc (.cells #[.bool n, .slice b y.length cb] 37) = W at *
      go_loopg [5] x.length (fun k v wr => ∃ (j q : Nat), j + k = x.length ∧ v = .int .i64 (j : Int) ∧ Hid (x.take j = y.take j) ∧ wr = W.drewN q)
      case atStart => exact ⟨0, 0, by omega, rfl, hide (by simp), rfl⟩
      case round =>
        obtain ⟨j, q, hjk, rfl, HT, rfl⟩ := hrel
        rcases Nat.eq_zero_or_pos gk with h0 | h0
        · subst h0
          obtain rfl : j = x.length := by omega
          have HV : Hid (decide (True ∧ x = y) = true) := hide (by
            have h := HT.out
            rw [List.take_length, HL.out, List.take_length] at h
            simp [h])
          go_wp2_with fail
          go_ret
          exact ⟨by rw [← HR.out, HV.out]; rfl, below_drewN hb0 _⟩
        · have hj1 : j < x.length := by omega
          have hj2 : j < y.length := by have := HL.out; omega
          obtain ⟨p, po, rfl, hc, _⟩ := hx0.at hj1
          obtain ⟨p', po', rfl, hd, _⟩ := hy0.at hj2
          have HU1 : Hid (x[j] = y[j] → x.take (j + 1) = y.take (j + 1)) := hide (fun h => by
            rw [List.take_succ_eq_append_getElem hj1, List.take_succ_eq_append_getElem hj2, HT.out, h])
          have HU2 : Hid (x[j] ≠ y[j] → decide (True ∧ x = y) = false) := hide (fun h => by
            simp
            rintro rfl
            exact h rfl)
          generalize x[j] = c at hc HU1 HU2
          generalize y[j] = d at hd HU1 HU2
          by_cases hcd : c = d
          · subst hcd
            have HV := hide (HU1.out rfl)
            have t1 : ((c : Int) != (c : Int)) = false := by simp
            clear HU1 HU2
            go_wp2_with fail
            go_quiet (fail)
            go_wp2_with fail
            go_roundg (gk - 1)
            case measure => omega
            case rel => exact ⟨j + 1, _, by omega, by go_num, HV, rfl⟩
          · have HV := hide (HU2.out hcd)
            have t1 : ((c : Int) != (d : Int)) = true := by simp; omega
            have t1' : ((c : Int) == (d : Int)) = false := by simp; omega
            clear HU1 HU2
            go_wp2_with fail
            go_quiet (fail)
            go_wp2_with fail
            go_ret
            refine ⟨by rw [← HR.out, HV.out]; rfl, ?_⟩
            obtain ⟨k, hk⟩ := @drew2 W q _
            rw [hk]
            exact below_drewN hb0 _
    · have e0 : ((x.length : Int) != (y.length : Int)) = true := by simp; omega
      have HV : Hid (decide (n = n ∧ x = y) = false) := hide (by simp; intro h; rw [h] at hlen; exact hlen rfl)
      go_enter Tryz.func45, Tryz.ntmps45
      go_wp2_with fail
      go_ret
      exact ⟨by rw [← HR.out, HV.out]; rfl, hb0⟩
  · have HV : Hid (decide (n = m ∧ x = y) = false) := hide (by simp; intro h; exact absurd h hnm)
    have e0 : (n != m) = true := by cases n <;> cases m <;> simp at hnm ⊢
    go_enter Tryz.func45, Tryz.ntmps45
    go_wp2_with fail
    go_ret
    exact ⟨by rw [← HR.out, HV.out]; rfl, hb0⟩

theorem Same_any {x y : Int} {u v : Value} (w : World) (hx : IntV w u x) (hy : IntV w v y) (hn : Sm x) :
    Calls Tryz.prog 45 #[u, v] w fun e w' => e = .returned (.bool (decide (x = y))) ∧ Below w.heap.size w w' := by
  obtain ⟨a, ca, rfl, _, hd⟩ := hx
  obtain ⟨b, cb, rfl, _, he⟩ := hy
  have e : decide (decide (x < 0) = decide (y < 0) ∧ dg BB x.natAbs = dg BB y.natAbs) = decide (x = y) := by
    have h : (decide (x < 0) = decide (y < 0) ∧ dg BB x.natAbs = dg BB y.natAbs) ↔ x = y := by
      constructor
      · rintro ⟨h1, h2⟩
        have h3 : x.natAbs = y.natAbs := by rw [← dg_val BB2 x.natAbs, h2, dg_val BB2]
        have h4 : x < 0 ↔ y < 0 := by simpa using h1
        omega
      · rintro rfl; exact ⟨rfl, rfl⟩
    exact decide_eq_decide.2 h
  rw [← e]
  exact Same_raw _ _ a b ca cb _ _ w hd he hn
end Go.Proofs.YtphjffbldhhdiaaGreatDoor

namespace Go.Proofs.YtphjffbldhhdiaaGreatDoor
open Go.RowKit

/-- k decimal digits of u, the first ahead. -/
def fix : Nat → Nat → List UInt8
  | 0, _ => []
  | k + 1, u => fix k (u / 10) ++ [UInt8.ofNat (48 + u % 10)]
theorem fix_zero : ∀ k : Nat, fix k 0 = List.replicate k 48
  | 0 => rfl
  | k + 1 => by
    rw [fix, fix_zero k, List.replicate_succ']
    rfl
theorem fix_pad : ∀ (k u : Nat), u < 10 ^ (k + 1) → Lib.nDigits u ≤ k + 1 ∧ fix (k + 1) u = List.replicate (k + 1 - Lib.nDigits u) 48 ++ Lib.decDigits u
  | k, u, h => by
    by_cases h10 : u < 10
    · rw [Lib.nDigits_small h10, Lib.decDigits_one h10, fix, show u / 10 = 0 by omega, fix_zero, show u % 10 = u by omega]
      exact ⟨by omega, rfl⟩
    · cases k with
      | zero => simp at h; omega
      | succ k =>
        obtain ⟨h1, h2⟩ := fix_pad k (u / 10) (by rw [Nat.pow_succ] at h; omega)
        rw [Lib.nDigits_big h10, Lib.decDigits, dif_neg h10, fix, h2, List.append_assoc]
        exact ⟨by omega, by rw [show k + 1 + 1 - (Lib.nDigits (u / 10) + 1) = k + 1 - Lib.nDigits (u / 10) by omega]⟩
theorem dec_split : ∀ (k q r : Nat), 1 ≤ q → r < 10 ^ k → Lib.decDigits (q * 10 ^ k + r) = Lib.decDigits q ++ fix k r
  | 0, q, r, _, hr => by
    obtain rfl : r = 0 := by simpa using hr
    simp [fix]
  | k + 1, q, r, hq, hr => by
    have hp : 1 ≤ 10 ^ k := Nat.one_le_pow _ _ (by decide)
    have hqp : 10 ^ k ≤ q * 10 ^ k := Nat.le_mul_of_pos_left _ hq
    have e : q * 10 ^ (k + 1) = (q * 10 ^ k) * 10 := by rw [Nat.pow_succ, Nat.mul_assoc]
    rw [Nat.pow_succ] at hr
    rw [e]
    have ih := dec_split k q (r / 10) hq (by omega)
    generalize q * 10 ^ k = m at *
    rw [Lib.decDigits, dif_neg (by omega), show (m * 10 + r) / 10 = m + r / 10 by omega, ih, show (m * 10 + r) % 10 = r % 10 by omega, fix, List.append_assoc]

/-- The text of the digits from the greatest one down to j. -/
def txt (ds : List Nat) (j : Nat) : List UInt8 := Lib.decDigits (val BB (ds.drop j))
theorem val_drop_pos {ds : List Nat} (hc : Canon BB ds) {j : Nat} (hj : j < ds.length) : 0 < val BB (ds.drop j) := by
  refine Canon.pos (by rw [BB_eq]; decide) ⟨hc.1.drop j, ?_⟩ (by intro h; rw [List.drop_eq_nil_iff] at h; omega)
  rw [List.getLast?_drop, if_neg (by omega)]
  exact hc.2
theorem txt_step {ds : List Nat} (hc : Canon BB ds) {j : Nat} (hj : j + 1 < ds.length) : txt ds j = txt ds (j + 1) ++ (List.replicate (9 - Lib.nDigits ds[j]) 48 ++ Lib.decDigits ds[j]) := by
  have h9 : ds[j] < 10 ^ 9 := hc.1.at (by omega)
  unfold txt
  rw [List.drop_eq_getElem_cons (show j < ds.length by omega)]
  show Lib.decDigits (ds[j] + BB * val BB (ds.drop (j + 1))) = _
  have hp := val_drop_pos hc hj
  generalize val BB (ds.drop (j + 1)) = V at hp
  rw [Nat.add_comm, Nat.mul_comm, show BB = 10 ^ 9 from rfl, dec_split 9 _ _ hp h9, (fix_pad 8 ds[j] h9).2]
theorem nDigits9 {d : Nat} (h : d < BB) : Lib.nDigits d ≤ 9 := (fix_pad 8 d h).1
theorem txt_last {ds : List Nat} {j : Nat} (hj : j + 1 = ds.length) : txt ds j = Lib.decDigits (ds[j]'(by omega)) := by
  unfold txt
  rw [List.drop_eq_getElem_cons (show j < ds.length by omega), List.drop_of_length_le (by omega)]
  simp [val]
/-- A number's text. -/
def decZ (z : Int) : List UInt8 := (if z < 0 then [45] else []) ++ Lib.decDigits z.natAbs
end Go.Proofs.YtphjffbldhhdiaaGreatDoor

namespace Go.Proofs.YtphjffbldhhdiaaGreatDoor
open Go.RowKit Go.Sort

/-- The table of powers that the library reads. -/
def Tab (w : World) : Prop := Lib.TabIs Tryz.prog w "internal/strconv.uint64pow10" .u64 Lib.pow10Tab

/-- What FormatUint leaves. -/
def FmtPost (w : World) (u : Nat) (e : Ending) (w' : World) : Prop := e = .returned (.string ⟨(Lib.decDigits u).toArray⟩) ∧ Below w.heap.size w w'

theorem below_putRow {w : World} {o : Obj} (dk : Array UInt8) (k : Nat) : Below w.heap.size w ((putRow (fun (b : UInt8) => Value.int .u8 (b.toNat : Int)) (w.alloc o) w.heap.size 0 dk).drewN k) := by
  rw [alloc_eq_grow]
  obtain ⟨os', _, e⟩ := putRow_grow_new (fun (b : UInt8) => Value.int .u8 (b.toNat : Int)) w #[o] w.heap.size 0 dk (Nat.le_refl _)
  rw [e]
  exact Lib.below_grow w.heap.size w (Nat.le_refl _) k os'
theorem Tab.below {w w' : World} (h : Tab w) (hb : Below w.heap.size w w') : Tab w' := Lib.tabBelow_of_tabIs h w' hb

set_option maxHeartbeats 3200000 in
set_option maxRecDepth 100000 in
theorem fmtInner_any (u : Nat) (hu64 : u < 18446744073709551616) (w : World) (htab : Tab w) :
    Calls Tryz.prog 88 #[.int .u64 u, .int .i64 10] w (FmtPost w u) := by
  generalize hP : FmtPost w u = Post
  have HP := hide hP
  clear hP
  rcases Nat.lt_or_ge u 100 with hs | hs
  · have hsd : decide (u < 100) = true := decide_eq_true hs
    go_enter Tryz.func88, Tryz.ntmps88
    go_wp2_with (go_at_call 92; refine (Tryz.internal_strconv_small u hs _).mono ?_; rintro e w' ⟨rfl, rfl⟩)
    rw [← HP.out]
    exact ⟨rfl, Below.refl _ _⟩
  · have hu1 : 1 ≤ u := by omega
    have hnd20 : Lib.nDigits u ≤ 20 := by have := Lib.numDigits_eq u hu1 hu64; split at this <;> omega
    have hal : Tryz.prog.arrayLen 129 = 24 := by kernel_rfl
    have hsl : ∀ W, (Instr.sliceAt 129 (.pointer (some ⟨w.heap.size, 0, none⟩)) none (some (.int .i64 (Lib.nDigits u : Int))) none).run Tryz.prog W = .ok (.slice (some ⟨w.heap.size, 0, none⟩) (Lib.nDigits u) 24) W := fun W => by
      rw [run_sliceAt_array_h W 129 ⟨w.heap.size, 0, none⟩ (by simp [Program.arrayLen, Program.elem, Tryz.underlying129]) .i64 (Lib.nDigits u : Int) (by omega) (by rw [hal]; omega)]
      go_simp
    have hH0 := Lib.holds_zero0 w 129 (Lib.nDigits u) (by omega)
    have hfmt := Tryz.internal_strconv_formatBase10 w.heap.size 0 24 u (Array.replicate (Lib.nDigits u) 0) (w.alloc (.cells Lib.zeros24 129)) hH0 (by rw [Array.size_replicate]; exact Lib.lt_pow_nDigits u) hu64 (by rw [Array.size_replicate]; omega)
    rw [Array.size_replicate] at hfmt
    have HH0 := Lib.hid hH0
    have HF := Lib.hid hfmt
    have iu : decide (u < 100) = false := by simp; omega
    clear hH0 hal hfmt
    go_enter Tryz.func88, Tryz.ntmps88
    go_wp2_with (first
      | (go_at_call 93; refine (Tryz.internal_strconv_numDigits u hu1 hu64 _ (Lib.tabIs_alloc htab _)).mono ?_; rintro e w' ⟨rfl, rfl⟩))
    go_at_call 94
    refine HF.out.mono ?_
    rintro e w' ⟨rfl, k, v', dk, rfl, hF⟩
    have hcv : (convert 107 9 (.slice (some ⟨w.heap.size, 0, none⟩) (Lib.nDigits u) 24)).run Tryz.prog ((putRow (fun (b : UInt8) => Value.int .u8 (b.toNat : Int)) (w.alloc (.cells Lib.zeros24 129)) w.heap.size 0 dk).drewN k) = .ok (.string ⟨(Lib.decDigits u).toArray⟩) ((putRow (fun (b : UInt8) => Value.int .u8 (b.toNat : Int)) (w.alloc (.cells Lib.zeros24 129)) w.heap.size 0 dk).drewN k) := by
      have h := run_convert_bytes_back (P := Tryz.prog) ((putRow (fun (b : UInt8) => Value.int .u8 (b.toNat : Int)) (w.alloc (.cells Lib.zeros24 129)) w.heap.size 0 dk).drewN k) 107 9 5 ⟨w.heap.size, 0, none⟩ 24 (Lib.decDigits u) Tryz.underlying107 Tryz.underlying5 Tryz.underlying9 (fun j hj => by
        rw [Lib.row_is_numeral hF j hj, Lib.add_plain, World.cell?_drewN]
        exact cell?_putRow (fun (b : UInt8) => Value.int .u8 (b.toNat : Int)) _ w.heap.size 0 _ dk HH0.out (by rw [hF.size, Array.size_replicate]) j (by rw [hF.size]; rw [Lib.decDigits_length] at hj; exact hj))
      rw [Lib.decDigits_length] at h
      exact h
    go_wp2_with fail
    rw [← HP.out]
    exact ⟨rfl, below_putRow dk k⟩

theorem Fmt_any (u : Nat) (hu64 : u < 18446744073709551616) (w : World) (htab : Tab w) :
    Calls Tryz.prog 79 #[.int .u64 u, .int .i64 10] w (FmtPost w u) := by
  generalize hP : FmtPost w u = Post
  have HP := hide hP
  clear hP
  go_enter Tryz.func79, Tryz.ntmps79
  go_wp2_with fail
  refine (fmtInner_any u hu64 w htab).mono ?_
  rintro e w' ⟨rfl, hb⟩
  go_wp2_with fail
  rw [← HP.out]
  exact ⟨rfl, hb⟩
end Go.Proofs.YtphjffbldhhdiaaGreatDoor

namespace Go.Proofs.YtphjffbldhhdiaaGreatDoor
open Go.RowKit

theorem sizeBuilder : (Tryz.prog.info? 109).map (·.size) = some 2 := by kernel_rfl
theorem liesBuilder : liesAt Tryz.prog Tryz.prog.depth 109 (2 / Tryz.prog.cellsOf 109) 0 109 1 = true := by kernel_rfl
theorem infoByte : (Tryz.prog.info? 5).map (fun i => (i.zero, i.size, i.bytes)) = some (some (.int .u8 0), 1, 1) := by kernel_rfl

abbrev IsBuilder (B b : Nat) (bs : List Value) (w : World) : Prop := Lib.IsBuilder 109 5 B b bs w
abbrev BuilderAt (B b : Nat) (p : Value) (bs : List Value) (w : World) : Prop := Lib.BuilderAt 109 5 B b p bs w

set_option maxHeartbeats 1000000 in
set_option maxRecDepth 100000 in
theorem copyCheck_used (b : Nat) (w : World) (h0 : w.cell? ⟨b, 0, none⟩ = some (.pointer (some ⟨b, 0, none⟩))) :
    Calls Tryz.prog 87 #[.pointer (some ⟨b, 0, none⟩)] w fun e w' => e = .returned (.tuple #[]) ∧ w' = w := by
  obtain ⟨j, hj, _⟩ := Option.map_eq_some_iff.1 sizeBuilder
  go_enter Tryz.func87, Tryz.ntmps87
  go_wp2
  rw [Lib.run_neq_ptr_same w _ Tryz.underlying106 hj]
  go_wp2
  go_end0
  exact ⟨rfl, rfl⟩

set_option maxHeartbeats 1000000 in
set_option maxRecDepth 100000 in
theorem copyCheck_fresh (b : Nat) (w : World) (h0 : w.cell? ⟨b, 0, none⟩ = some (.pointer none)) (hsh : w.shape? b = some (109, 2)) (hfz : w.frozen? ⟨b, 0, none⟩ = false) :
    Calls Tryz.prog 87 #[.pointer (some ⟨b, 0, none⟩)] w fun e w' => e = .returned (.tuple #[]) ∧ w' = w.setCell ⟨b, 0, none⟩ (.pointer (some ⟨b, 0, none⟩)) := by
  obtain ⟨j, hj, hjs⟩ := Option.map_eq_some_iff.1 sizeBuilder
  go_enter Tryz.func87, Tryz.ntmps87
  go_wp2
  rw [Lib.run_to_unsafe w ⟨b, 0, none⟩ Tryz.underlying106 Tryz.underlying126 hj (by rw [hjs]; decide) hsh (Nat.zero_lt_succ 1)]
  simp only [Result.andThen]
  rw [Oper.upon_value]
  go_wp2
  rw [run_callFunc_extern Tryz.func91 (by kernel_rfl) (by kernel_rfl) (by kernel_rfl) (e := Extern.AbiNoEscape.same) (by kernel_rfl)]
  rw [Lib.run_noEscape]
  simp only [Result.andThen]
  rw [Oper.upon_value]
  go_wp2
  rw [Lib.run_from_unsafe w ⟨b, 0, none⟩ Tryz.underlying126 Tryz.underlying106 hj hsh liesBuilder]
  simp only [Result.andThen]
  rw [Oper.upon_value]
  go_wp2
  go_end0
  exact ⟨rfl, rfl⟩

theorem copyCheck_any (B b : Nat) (bs : List Value) (w : World) (h : IsBuilder B b bs w) :
    Calls Tryz.prog 87 #[.pointer (some ⟨b, 0, none⟩)] w fun e w' => e = .returned (.tuple #[]) ∧ (BuilderAt B b (.pointer (some ⟨b, 0, none⟩)) bs w' ∧ Below B w w') := by
  rcases h with h | h
  · refine (copyCheck_fresh b w h.cell0 h.shape h.frozen0).mono ?_
    rintro e w' ⟨rfl, rfl⟩
    exact ⟨rfl, h.used _, (Below.refl B w).setCell (p := ⟨b, 0, none⟩) h.1 _⟩
  · refine (copyCheck_used b w h.cell0).mono ?_
    rintro e w' ⟨rfl, rfl⟩
    exact ⟨rfl, h, Below.refl B _⟩

set_option maxHeartbeats 2000000 in
set_option maxRecDepth 100000 in
theorem writeByte_any (B b : Nat) (bs : List Value) (c : Int) (w : World) (h : IsBuilder B b bs w) (hlen : bs.length + 1 ≤ 140737488355328) (hBw : B ≤ w.heap.size) :
    Calls Tryz.prog 77 #[.pointer (some ⟨b, 0, none⟩), .int .u8 c] w fun e w' => e = .returned .nilIface ∧ (BuilderAt B b (.pointer (some ⟨b, 0, none⟩)) (bs ++ [.int .u8 c]) w' ∧ Below B w w') := by
  obtain ⟨i0, hi, hz0, hz1, hz2⟩ := info_parts infoByte
  go_enter Tryz.func77, Tryz.ntmps77
  go_wp2_with (go_at_call 87; refine (copyCheck_any B b bs _ h).mono ?_)
  rintro e w1 ⟨rfl, h1, hb1⟩
  obtain ⟨hB, v, hbk, hown, hne⟩ := h1
  have c0 : w1.cell? ⟨b, 0, none⟩ = some (.pointer (some ⟨b, 0, none⟩)) := by rw [Lib.cell_of_heap hbk]; rfl
  have c1 : w1.cell? ⟨b, 1, none⟩ = some v := by rw [Lib.cell_of_heap hbk]; rfl
  go_wp2_with (at_builtin; refine wpList_append_own _ rfl _ _ 107 rfl B 5 i0 (.int .u8 0) 1 1 Tryz.underlying107 hi hz0 hz1 hz2 rfl (by decide) _ _ _ rfl (hown.alloc _) ⟨w1.heap.size, 0, none⟩ 1 1 [.int .u8 c] rfl rfl ?c1 ?c2 ?c3 ?c4 ?c5 ?_)
  case c1 =>
    intro j u hj
    match j, hj with
    | 0, hj => simp at hj; subst hj; simp [Addr.add]
  case c2 => intro u hu; simp at hu; subst hu; rfl
  case c3 => unfold maxLen; omega
  case c4 => omega
  case c5 => have := hb1.size; simp; omega
  intro v' w2 hown' hgrow _
  have hlt : b < w1.heap.size := by
    rcases Nat.lt_or_ge b w1.heap.size with h' | h'
    · exact h'
    · simp [Array.getElem?_eq_none h'] at hbk
  have hb2 : w2.heap[b]? = some (.cells #[.pointer (some ⟨b, 0, none⟩), v] 109 (0, 0)) := by
    rw [hgrow.block b (by simp; omega) (fun e => hne e.symm), Lib.alloc_old w1 _ b hlt]
    exact hbk
  have d0 : w2.cell? ⟨b, 0, none⟩ = some (.pointer (some ⟨b, 0, none⟩)) := by rw [Lib.cell_of_heap hb2]; rfl
  have d1 : w2.cell? ⟨b, 1, none⟩ = some v := by rw [Lib.cell_of_heap hb2]; rfl
  have f1 : w2.frozen? ⟨b, 1, none⟩ = false := Lib.frozen_of_heap hb2 1
  obtain ⟨g, cap, rfl⟩ : ∃ g cap, v' = .slice (some ⟨g, 0, none⟩) (bs.length + 1) cap := by
    rcases hown'.2 with ⟨_, h0⟩ | ⟨g, cap, cur, hv, _⟩
    · omega
    · exact ⟨g, cap, hv⟩
  go_wp2
  go_ret
  refine ⟨rfl, ?_, ?_⟩
  · exact Lib.BuilderAt.put (T := 109) (e := 5) hB hb2 (bs' := bs ++ [.int .u8 c]) (by simpa using hown') (by decide)
  · exact ((hb1.alloc (by have := hb1.size; omega) _).grown hgrow (by have := hb1.size; simp; omega) (fun k hk => (hown.lt k hk).1)).setCell (p := ⟨b, 1, none⟩) hB _

set_option maxHeartbeats 2000000 in
set_option maxRecDepth 100000 in
theorem writeString_any (B b : Nat) (bs : List Value) (s : ByteArray) (w : World) (h : IsBuilder B b bs w) (hlen : bs.length + s.size ≤ 140737488355328) (hBw : B ≤ w.heap.size) :
    Calls Tryz.prog 78 #[.pointer (some ⟨b, 0, none⟩), .string s] w fun e w' => e = .returned (.tuple #[.int .i64 s.size, .nilIface]) ∧ (BuilderAt B b (.pointer (some ⟨b, 0, none⟩)) (bs ++ Lib.strCells s) w' ∧ Below B w w') := by
  obtain ⟨i0, hi, hz0, hz1, hz2⟩ := info_parts infoByte
  go_enter Tryz.func78, Tryz.ntmps78
  go_wp2_with (go_at_call 87; refine (copyCheck_any B b bs _ h).mono ?_)
  rintro e w1 ⟨rfl, h1, hb1⟩
  obtain ⟨hB, v, hbk, hown, hne⟩ := h1
  have c0 : w1.cell? ⟨b, 0, none⟩ = some (.pointer (some ⟨b, 0, none⟩)) := by rw [Lib.cell_of_heap hbk]; rfl
  have c1 : w1.cell? ⟨b, 1, none⟩ = some v := by rw [Lib.cell_of_heap hbk]; rfl
  go_wp2_with (at_builtin; refine Lib.wpList_append_own_string _ rfl _ _ 107 9 rfl B 5 i0 Tryz.underlying107 Tryz.underlying9 hi hz0 hz1 hz2 _ _ _ rfl hown s rfl ?c3 ?c4 ?c5 ?_)
  case c3 => unfold maxLen; omega
  case c4 => omega
  case c5 => have := hb1.size; omega
  intro v' w2 hown' hgrow _
  have hlt : b < w1.heap.size := by
    rcases Nat.lt_or_ge b w1.heap.size with h' | h'
    · exact h'
    · simp [Array.getElem?_eq_none h'] at hbk
  have hb2 : w2.heap[b]? = some (.cells #[.pointer (some ⟨b, 0, none⟩), v] 109 (0, 0)) := by
    rw [hgrow.block b hlt (fun e => hne e.symm)]
    exact hbk
  have d0 : w2.cell? ⟨b, 0, none⟩ = some (.pointer (some ⟨b, 0, none⟩)) := by rw [Lib.cell_of_heap hb2]; rfl
  have d1 : w2.cell? ⟨b, 1, none⟩ = some v := by rw [Lib.cell_of_heap hb2]; rfl
  have f1 : w2.frozen? ⟨b, 1, none⟩ = false := Lib.frozen_of_heap hb2 1
  obtain ⟨ao, n', cap, rfl⟩ : ∃ ao n' cap, v' = .slice ao n' cap := by
    rcases hown'.2 with ⟨hv, _⟩ | ⟨g, cap, cur, hv, _⟩
    · exact ⟨_, _, _, hv⟩
    · exact ⟨_, _, _, hv⟩
  go_wp2
  go_ret2
  refine ⟨rfl, ?_, ?_⟩
  · exact Lib.BuilderAt.put (T := 109) (e := 5) hB hb2 (bs' := bs ++ Lib.strCells s) (by simpa [Lib.strCells_length] using hown') (by decide)
  · exact (hb1.grown hgrow (by have := hb1.size; omega) (fun k hk => (hown.lt k hk).1)).setCell (p := ⟨b, 1, none⟩) hB _

set_option maxHeartbeats 1000000 in
set_option maxRecDepth 100000 in
theorem string_some (B b : Nat) (l : List UInt8) (w : World) (h : IsBuilder B b (Lib.byteCells l) w) (h0 : l ≠ []) :
    Calls Tryz.prog 80 #[.pointer (some ⟨b, 0, none⟩)] w fun e w' => e = .returned (.string ⟨l.toArray⟩) ∧ Below B w w' := by
  obtain ⟨p, hB, v, hbk, hown, hne⟩ : ∃ p, BuilderAt B b p (Lib.byteCells l) w := by
    rcases h with h | h
    · exact ⟨_, h⟩
    · exact ⟨_, h⟩
  have hl0 : l.length ≠ 0 := by simpa using h0
  rw [Lib.byteCells_length] at hown
  obtain ⟨g, cap, cur, rfl, hbg, hg, hnc, hcm, hcs, htake⟩ : ∃ g cap cur, v = .slice (some ⟨g, 0, none⟩) l.length cap ∧ B ≤ g ∧ w.heap[g]? = some (.cells cur 5 (0, 0)) ∧ l.length ≤ cap ∧ cap ≤ maxLen ∧ cur.size = cap * 1 ∧ cur.toList.take (l.length * 1) = Lib.byteCells l := by
    rcases hown.2 with ⟨_, hz⟩ | ⟨g, cap, cur, hv, r⟩
    · exact absurd hz hl0
    · exact ⟨g, cap, cur, hv, r⟩
  have c1 : w.drew.cell? ⟨b, 1, none⟩ = some (.slice (some ⟨g, 0, none⟩) l.length cap) := by
    have : w.drew.heap[b]? = some (.cells #[p, .slice (some ⟨g, 0, none⟩) l.length cap] 109 (0, 0)) := hbk
    rw [Lib.cell_of_heap this]; rfl
  have hSD : (Builtin.unsafeSliceData_ #[107] 123 #[.slice (some ⟨g, 0, none⟩) l.length cap]).run Tryz.prog w.drew = .ok (.pointer (some ⟨g, 0, none⟩)) w.drew :=
    Lib.run_unsafeSliceData_row _ _ _ _ _ _ (by omega)
  have hUS : (Builtin.unsafeString_ #[123, 3] 9 #[.pointer (some ⟨g, 0, none⟩), .int .i64 l.length]).run Tryz.prog w.drew = .ok (.string ⟨l.toArray⟩) (w.drew.freeze ⟨g, 0, none⟩ l.length) := by
    refine Lib.run_unsafeString_row w.drew 123 3 9 5 Tryz.underlying123 (by kernel_rfl) g cur.size (by have hg' : w.drew.heap[g]? = some (.cells cur 5 (0, 0)) := hg; simp [World.shape?, hg']) l h0 (by omega) (by unfold maxLen at hcm; omega) ?_
    intro j x hx
    have := hown.cells (g := g) rfl j (.int .u8 x.toNat) (by simp [Lib.byteCells, hx])
    exact this
  go_enter Tryz.func80, Tryz.ntmps80
  go_wp2
  go_region
  all_goals (go_wp2; go_ret; exact ⟨rfl, Lib.below_freeze (Below.drew (Below.refl B w)) (p := ⟨g, 0, none⟩) hbg _⟩)

theorem unsafeString_none (W : World) (q : Option Addr) : (Builtin.unsafeString_ #[123, 3] 9 #[.pointer q, .int .i64 0]).run Tryz.prog W = .ok (.string .empty) W :=
  Lib.run_unsafeString_none W _ _ _ q

set_option maxHeartbeats 2000000 in
set_option maxRecDepth 100000 in
theorem string_nil (B b : Nat) (p : Value) (w : World) (hbk : w.heap[b]? = some (.cells #[p, .slice none 0 0] 109 (0, 0))) :
    Calls Tryz.prog 80 #[.pointer (some ⟨b, 0, none⟩)] w fun e w' => e = .returned (.string ⟨#[]⟩) ∧ Below B w w' := by
  have hUS := unsafeString_none
  have c1 : w.drew.cell? ⟨b, 1, none⟩ = some (.slice none 0 0) := by
    have : w.drew.heap[b]? = some (.cells #[p, .slice none 0 0] 109 (0, 0)) := hbk
    rw [Lib.cell_of_heap this]; rfl
  have hSD : (Builtin.unsafeSliceData_ #[107] 123 #[.slice none 0 0]).run Tryz.prog w.drew = .ok (.pointer none) w.drew := rfl
  go_enter Tryz.func80, Tryz.ntmps80
  go_wp2
  go_region
  all_goals (go_wp2; go_ret; exact ⟨rfl, Below.drew (Below.refl B w)⟩)

set_option maxHeartbeats 2000000 in
set_option maxRecDepth 100000 in
theorem string_noroom (B b g : Nat) (p : Value) (cur : Array Value) (w : World) (hBw : B ≤ w.heap.size) (hbk : w.heap[b]? = some (.cells #[p, .slice (some ⟨g, 0, none⟩) 0 0] 109 (0, 0))) (hg : w.heap[g]? = some (.cells cur 5 (0, 0))) :
    Calls Tryz.prog 80 #[.pointer (some ⟨b, 0, none⟩)] w fun e w' => e = .returned (.string ⟨#[]⟩) ∧ Below B w w' := by
  have hUS := unsafeString_none
  have hlt : b < w.heap.size := by
    rcases Nat.lt_or_ge b w.heap.size with h' | h'
    · exact h'
    · simp [Array.getElem?_eq_none h'] at hbk
  have c1 : w.drew.cell? ⟨b, 1, none⟩ = some (.slice (some ⟨g, 0, none⟩) 0 0) := by
    have : w.drew.heap[b]? = some (.cells #[p, .slice (some ⟨g, 0, none⟩) 0 0] 109 (0, 0)) := hbk
    rw [Lib.cell_of_heap this]; rfl
  have hSD : (Builtin.unsafeSliceData_ #[107] 123 #[.slice (some ⟨g, 0, none⟩) 0 0]).run Tryz.prog w.drew = .ok (.pointer (some ⟨w.drew.heap.size, 0, none⟩)) (w.drew.alloc (.view ⟨g, 0, none⟩ 5)) :=
    Lib.run_unsafeSliceData_zero w.drew _ _ 5 Tryz.underlying123 ⟨g, 0, none⟩ 0 (5, cur.size) (by have hg' : w.drew.heap[g]? = some (.cells cur 5 (0, 0)) := hg; simp [World.shape?, hg'])
  have c2 : (w.drew.alloc (.view ⟨g, 0, none⟩ 5)).cell? ⟨b, 1, none⟩ = some (.slice (some ⟨g, 0, none⟩) 0 0) := by
    have : (w.drew.alloc (.view ⟨g, 0, none⟩ 5)).heap[b]? = _ := (Lib.alloc_old w.drew _ b hlt).trans hbk
    rw [Lib.cell_of_heap this]; rfl
  have c3 : (w.alloc (.view ⟨g, 0, none⟩ 5)).drew.cell? ⟨b, 1, none⟩ = some (.slice (some ⟨g, 0, none⟩) 0 0) := c2
  have c0 : w.cell? ⟨b, 1, none⟩ = some (.slice (some ⟨g, 0, none⟩) 0 0) := c1
  go_enter Tryz.func80, Tryz.ntmps80
  go_wp2
  go_region
  all_goals (go_wp2; go_ret; exact ⟨rfl, (Below.drew (Below.refl B w)).alloc hBw _⟩)

set_option maxHeartbeats 2000000 in
set_option maxRecDepth 100000 in
theorem string_room (B b g cap : Nat) (p : Value) (w : World) (hc0 : cap ≠ 0) (hbk : w.heap[b]? = some (.cells #[p, .slice (some ⟨g, 0, none⟩) 0 cap] 109 (0, 0))) :
    Calls Tryz.prog 80 #[.pointer (some ⟨b, 0, none⟩)] w fun e w' => e = .returned (.string ⟨#[]⟩) ∧ Below B w w' := by
  have hUS := unsafeString_none
  have c1 : w.drew.cell? ⟨b, 1, none⟩ = some (.slice (some ⟨g, 0, none⟩) 0 cap) := by
    have : w.drew.heap[b]? = some (.cells #[p, .slice (some ⟨g, 0, none⟩) 0 cap] 109 (0, 0)) := hbk
    rw [Lib.cell_of_heap this]; rfl
  have hSD : (Builtin.unsafeSliceData_ #[107] 123 #[.slice (some ⟨g, 0, none⟩) 0 cap]).run Tryz.prog w.drew = .ok (.pointer (some ⟨g, 0, none⟩)) w.drew :=
    Lib.run_unsafeSliceData_row _ _ _ _ _ _ hc0
  clear hc0
  go_enter Tryz.func80, Tryz.ntmps80
  go_wp2
  go_region
  all_goals (go_wp2; go_ret; exact ⟨rfl, Below.drew (Below.refl B w)⟩)

theorem string_any (B b : Nat) (l : List UInt8) (w : World) (h : IsBuilder B b (Lib.byteCells l) w) (hBw : B ≤ w.heap.size) :
    Calls Tryz.prog 80 #[.pointer (some ⟨b, 0, none⟩)] w fun e w' => e = .returned (.string ⟨l.toArray⟩) ∧ Below B w w' := by
  cases l with
  | nil =>
    obtain ⟨p, hB, v, hbk, hown, hne⟩ : ∃ p, BuilderAt B b p [] w := by
      rcases h with h | h
      · exact ⟨_, h⟩
      · exact ⟨_, h⟩
    rcases hown.2 with ⟨rfl, _⟩ | ⟨g, cap, cur, rfl, hbg, hg, _, _, _, _⟩
    · exact string_nil B b p w hbk
    · by_cases hc0 : cap = 0
      · subst hc0
        exact string_noroom B b g p cur w hBw hbk hg
      · exact string_room B b g cap p w hc0 hbk
  | cons x r => exact string_some B b (x :: r) w h (by simp)
end Go.Proofs.YtphjffbldhhdiaaGreatDoor

namespace Go.Proofs.YtphjffbldhhdiaaGreatDoor
open Go.RowKit

/-- What Text leaves. -/
def TextPost (w : World) (z : Int) (e : Ending) (w' : World) : Prop := e = .returned (.string ⟨(decZ z).toArray⟩) ∧ Below w.heap.size w w'

/-- The builder's text so far. -/
structure TxSt (W1 : World) (l : List UInt8) (wr : World) : Prop where
  bld : IsBuilder W1.heap.size W1.heap.size (Lib.byteCells l) wr
  bel : Below W1.heap.size W1 wr
section
variable {W1 wr w' : World} {l : List UInt8}
theorem isBuilder_below {B b : Nat} {bs : List Value} (h : IsBuilder B b bs wr) (hb : Below wr.heap.size wr w') : IsBuilder B b bs w' := by
  have key : ∀ p, BuilderAt B b p bs wr → BuilderAt B b p bs w' := by
    intro p h
    have hlt := h.lt
    obtain ⟨hB, v, hbk, hown, hne⟩ := h
    exact ⟨hB, v, (hb.block b hlt).trans hbk, hown.kept (row := none) ⟨hb.os, hb.tape, hb.output, hb.size, fun i hi _ => hb.block i hi⟩ (by cases v.ownBlock <;> simp), hne⟩
  rcases h with h | h
  · exact .inl (key _ h)
  · exact .inr (key _ h)
theorem TxSt.grow (s : TxSt W1 l wr) (hb : Below wr.heap.size wr w') : TxSt W1 l w' := ⟨isBuilder_below s.bld hb, s.bel.trans (hb.mono s.bel.size)⟩
theorem TxSt.byte (s : TxSt W1 l wr) {c : UInt8} {z : Int} (hz : z = c.toNat) (h : BuilderAt W1.heap.size W1.heap.size (.pointer (some ⟨W1.heap.size, 0, none⟩)) (Lib.byteCells l ++ [.int .u8 z]) w') (hb : Below W1.heap.size wr w') : TxSt W1 (l ++ [c]) w' := by
  subst hz
  exact ⟨.inr (by rw [Lib.byteCells_append]; exact h), s.bel.trans hb⟩
theorem TxSt.str (s : TxSt W1 l wr) {m : List UInt8} (h : BuilderAt W1.heap.size W1.heap.size (.pointer (some ⟨W1.heap.size, 0, none⟩)) (Lib.byteCells l ++ Lib.strCells ⟨m.toArray⟩) w') (hb : Below W1.heap.size wr w') : TxSt W1 (l ++ m) w' :=
  ⟨.inr (by rw [Lib.byteCells_append]; exact h), s.bel.trans hb⟩
theorem writeByte_tx (s : TxSt W1 l wr) (c : UInt8) (z : Int) (hz : z = c.toNat) (hl : l.length + 1 ≤ 140737488355328) :
    Calls Tryz.prog 77 #[.pointer (some ⟨W1.heap.size, 0, none⟩), .int .u8 z] wr fun e w' => e = .returned .nilIface ∧ TxSt W1 (l ++ [c]) w' := by
  refine (writeByte_any W1.heap.size W1.heap.size (Lib.byteCells l) z wr s.bld (by rw [Lib.byteCells_length]; exact hl) s.bel.size).mono ?_
  rintro e w' ⟨rfl, h, hb⟩
  exact ⟨rfl, s.byte hz h hb⟩
theorem writeString_tx (s : TxSt W1 l wr) (m : List UInt8) (hl : l.length + m.length ≤ 140737488355328) :
    Calls Tryz.prog 78 #[.pointer (some ⟨W1.heap.size, 0, none⟩), .string ⟨m.toArray⟩] wr fun e w' => (∃ n : Nat, e = .returned (.tuple #[.int .i64 n, .nilIface])) ∧ TxSt W1 (l ++ m) w' := by
  refine (writeString_any W1.heap.size W1.heap.size (Lib.byteCells l) ⟨m.toArray⟩ wr s.bld (by rw [Lib.byteCells_length]; exact hl) s.bel.size).mono ?_
  rintro e w' ⟨rfl, h, hb⟩
  exact ⟨⟨_, rfl⟩, s.str h hb⟩
end
theorem Tab.atBelow {w w' : World} {B : Nat} (h : Tab w) (hb : Below B w w') (hB : w.heap.size ≤ B) : Tab w' := h.below (hb.mono hB)
theorem txt_all {ds : List Nat} : txt ds 0 = Lib.decDigits (val BB ds) := by simp [txt]

set_option maxRecDepth 100000 in
set_option maxHeartbeats 3200000 in
theorem Text_any {x : Int} {u : Value} (w : World) (hx : IntV w u x) (hn : Sm x) (ht : Tab w) :
    Calls Tryz.prog 46 #[u] w (TextPost w x) := by
  generalize hP : TextPost w x = Post
  have HP := hide hP
  clear hP
  obtain ⟨a, ca, rfl, ha, hda⟩ := id hx
  have HX0 := hx
  clear hx
  have hX0 : Blk (w.alloc (.cells #[.bool (decide (x < 0)), .slice a (dg BB x.natAbs).length ca] 37)) w.heap.size 37 #[.bool (decide (x < 0)), .slice a (dg BB x.natAbs).length ca] := Blk.new w _ _
  have hB0 : Below w.heap.size w (w.alloc (.cells #[.bool (decide (x < 0)), .slice a (dg BB x.natAbs).length ca] 37)) := (Below.refl _ _).alloc (Nat.le_refl _) _
  go_enter Tryz.func46, Tryz.ntmps46
  go_wp2_with fail
  generalize w.alloc (.cells #[.bool (decide (x < 0)), .slice a (dg BB x.natAbs).length ca] 37) = W at hX0 hB0 ⊢
  have cxn := dg_canon BB2 x.natAbs
  have hsx : (dg BB x.natAbs).length ≤ 1099511627776 := hn
  have HV : Hid (val BB (dg BB x.natAbs) = x.natAbs) := hide (dg_val BB2 _)
  have HNX : Hid (decZ x = (if decide (x < 0) = true then [45] else []) ++ Lib.decDigits x.natAbs) := hide (by simp [decZ])
  refine (right_at HX0 hn hB0).mono ?_
  rintro e w1 ⟨rfl, hb1⟩
  have hX1 := hX0.below hb1 hX0.lt
  have hB1 : Below w.heap.size w w1 := hB0.trans (hb1.mono hB0.size)
  clear hX0 hB0 hb1
  generalize decide (x < 0) = nx at *
  generalize dg BB x.natAbs = dx at *
  have hX2 := hX1.two (.bool nx) (.slice a dx.length ca)
  have hB2 := (hB1.setCell (p := ⟨w.heap.size, 0, none⟩) (Nat.le_refl _) (.bool nx)).setCell (p := ⟨w.heap.size, 1, none⟩) (Nat.le_refl _) (.slice a dx.length ca)
  obtain ⟨c0, c1, cf⟩ := hX1.c2
  have hl1 := hX1.lt
  go_upto_region 2 with (fail)
  generalize (w1.setCell _ _).setCell _ _ = W1 at hX2 hB2 ⊢
  clear c0 c1 cf hX1 hB1 hl1
  obtain ⟨c0, c1, cf⟩ := hX2.c2
  have hda1 := hda.below hB2 (Nat.le_refl _)
  by_cases h0 : dx = []
  · subst h0
    simp only [List.length_nil] at c1 ⊢
    go_wp2_with fail
    rw [← HP.out]
    refine ⟨?_, hB2⟩
    have hz : x.natAbs = 0 := HV.out.symm
    have hx0 : x = 0 := by omega
    subst hx0
    rw [show decZ 0 = [48] by simp [decZ, Lib.decDigits_one (show 0 < 10 by decide)]]
    rfl
  · have hl0 : 0 < dx.length := List.length_pos_iff.2 h0
    have e0 : ((dx.length : Int) == 0) = false := by simp; omega
    have hX3 := hX2.alloc (.cells #[.pointer none, .slice none 0 0] 109)
    have hN3 := Blk.new W1 109 #[.pointer none, .slice none 0 0]
    have hB3 := (Below.refl W1.heap.size W1).alloc (Nat.le_refl _) (.cells #[.pointer none, .slice none 0 0] 109)
    have ht1 : Tab W1 := ht.atBelow hB2 (Nat.le_refl _)
    have s0 : TxSt W1 [] (W1.alloc (.cells #[.pointer none, .slice none 0 0] 109)) := ⟨Lib.fresh_isBuilder _ _ _, hB3⟩
    have c0' := (s0.bel.cell (p := ⟨w.heap.size, 0, none⟩) hX2.lt).trans c0
    obtain ⟨d0, d1, df⟩ := hX3.c2
    clear hN3
    go_upto_if 15 with (fail)
    generalize W1.alloc (.cells #[.pointer none, .slice none 0 0] 109) = W2 at hX3 hB3 s0 c0' d0 d1 df ⊢
    clear c0 c1 cf
    go_cut [] from 16 to 17 (fun wc => TxSt W1 (if nx = true then [45] else []) wc)
    case first =>
      cases nx with
      | true =>
        go_wp2_with fail
        refine (writeByte_tx s0 45 _ rfl (by decide)).mono ?_
        rintro e w3 ⟨rfl, s1⟩
        go_wp2_with fail
        go_meet
        exact s1
      | false =>
        go_wp2_with fail
        go_meet
        exact s0
    case rest =>
      have s1 : TxSt W1 (if nx = true then [45] else []) _ := hcut
      clear s0 c0' d0 d1 df hX3 hB3
      generalize hpre : (if nx = true then [45] else [] : List UInt8) = pre at s1
      have hpl : pre.length ≤ 1 := by rw [← hpre]; split <;> simp
      have HPRE := hide hpre
      clear hpre hcut
      obtain ⟨last, hlast⟩ : ∃ last, last + 1 = dx.length := ⟨dx.length - 1, by omega⟩
      obtain ⟨d0, d1, df⟩ := (hX2.below s1.bel hX2.lt).c2
      obtain ⟨ab, ao, rfl, hcl, hab⟩ := (hda1.below s1.bel (Nat.le_refl _)).at (i := last) (by omega)
      have i0 : ((dx.length : Int) - 1) = (last : Int) := by omega
      have hil : last < dx.length := by omega
      have hd9 : dx[last] < BB := cxn.1.at hil
      have hd64 : dx[last] < 18446744073709551616 := by have := hd9; rw [BB_eq] at this; omega
      have hnd := nDigits9 hd9
      have HTX := hide (txt_last hlast)
      clear hd9
      have HD := hide hd64
      generalize hdl : dx[last] = dl at *
      have HDL := hide hdl
      clear hdl hd64
      have hiu : IntKind.u64.wrap (dl : Int) = (dl : Int) := IntWalk.u64_in _ (by have := HD.out; omega)
      go_wp2_with fail
      refine (Fmt_any dl HD.out wc (ht1.atBelow s1.bel (Nat.le_refl _))).mono ?_
      rintro e w4 ⟨rfl, hb4⟩
      have s2 := s1.grow hb4
      clear d0 d1 df hcl
      go_wp2_with fail
      refine (writeString_tx s2 (Lib.decDigits dl) (by rw [Lib.decDigits_length]; omega)).mono ?_
      rintro e w5 ⟨⟨nn, rfl⟩, s3⟩
      rw [← HTX.out] at s3
      have hl3 : (pre ++ txt dx last).length ≤ 1 + 9 * (dx.length - last) := by rw [HTX.out, List.length_append, Lib.decDigits_length]; omega
      clear s1 s2 hb4
      go_wp2_with fail
      clear HTX HDL HD hiu hnd i0
      go_loopg [5] last (fun r v wr => v = .int .i64 ((r : Int) - 1) ∧ r < dx.length ∧ (pre ++ txt dx r).length ≤ 1 + 9 * (dx.length - r) ∧ TxSt W1 (pre ++ txt dx r) wr)
      case atStart => exact ⟨rfl, hil, hl3, s3⟩
      case round =>
        obtain ⟨rfl, hr, hlr, s⟩ := hrel
        clear s3 hl3
        cases gk with
        | zero =>
          go_wp2_with fail
          refine (string_any W1.heap.size W1.heap.size _ wr s.bld s.bel.size).mono ?_
          rintro e w6 ⟨rfl, hb6⟩
          go_wp2_with fail
          rw [← HP.out]
          refine ⟨?_, hB2.trans ((s.bel.trans hb6).mono hB2.size)⟩
          rw [HNX.out, HPRE.out, txt_all, HV.out]
          rfl
        | succ j =>
          have hj : j < dx.length := by omega
          obtain ⟨d0, d1, df⟩ := (hX2.below s.bel hX2.lt).c2
          obtain ⟨ab', ao', he, hcl, -⟩ := (hda1.below s.bel (Nat.le_refl _)).at hj
          obtain ⟨rfl, rfl⟩ : ab = ab' ∧ ao = ao' := by injection he with he; injection he with h1 h2; exact ⟨h1, h2⟩
          clear he
          have hd9 : dx[j] < BB := cxn.1.at hj
          have hd64 : dx[j] < 18446744073709551616 := by have := hd9; rw [BB_eq] at this; omega
          have hnd := nDigits9 hd9
          have HTX := hide (txt_step cxn hr)
          clear hd9
          have HD := hide hd64
          generalize hdl : dx[j] = dl at *
          have HDL := hide hdl
          clear hdl hd64
          have hiu : IntKind.u64.wrap (dl : Int) = (dl : Int) := IntWalk.u64_in _ (by have := HD.out; omega)
          have hj0 : ((j + 1 : Nat) : Int) - 1 = (j : Int) := by omega
          simp only [hj0]
          clear hj0
          go_wp2_with fail
          refine (Fmt_any dl HD.out wr (ht1.atBelow s.bel (Nat.le_refl _))).mono ?_
          rintro e w4 ⟨rfl, hb4⟩
          have s2 := s.grow hb4
          have hdl := Lib.decDigits_length dl
          clear d0 d1 df hcl s
          go_wp2_with fail
          go_loopg [7] (9 - Lib.nDigits dl) (fun r v wi => ∃ m, m + r = 9 - Lib.nDigits dl ∧ v = .int .i64 ((Lib.nDigits dl + m : Nat) : Int) ∧ TxSt W1 ((pre ++ txt dx (j + 1)) ++ List.replicate m 48) wi)
          case atStart => exact ⟨0, by omega, by simp, by simpa using s2⟩
          case round =>
            obtain ⟨m, hm, rfl, si⟩ := hrel
            clear s2
            rcases Nat.eq_zero_or_pos gk with h9 | h9
            · subst h9
              have e9 : Lib.nDigits dl + m = 9 := by omega
              have em : m = 9 - Lib.nDigits dl := by omega
              rw [e9]
              clear hm e9
              have hl5 : ((pre ++ txt dx (j + 1)) ++ List.replicate m 48).length + (Lib.decDigits dl).length ≤ 140737488355328 := by rw [List.length_append, List.length_replicate, Lib.decDigits_length]; omega
              have hl6 : (pre ++ txt dx j).length ≤ 1 + 9 * (dx.length - j) := by
                rw [HTX.out]; simp only [List.length_append, List.length_replicate, Lib.decDigits_length] at hlr ⊢; omega
              have HEM := hide em
              clear em
              go_wp2_with fail
              refine (writeString_tx si (Lib.decDigits dl) hl5).mono ?_
              rintro e w6 ⟨⟨n2, rfl⟩, s6⟩
              have s7 : TxSt W1 (pre ++ txt dx j) w6 := by rw [HTX.out, ← HEM.out]; simpa using s6
              clear s6 si hl5
              go_wp2_with fail
              go_roundg j
              case measure => omega
              case rel => exact ⟨rfl, hj, hl6, s7⟩
            · have e9 : decide (((Lib.nDigits dl + m : Nat) : Int) < 9) = true := by simp; omega
              have e10 : ((Lib.nDigits dl + m : Nat) : Int) < 9 := by omega
              have hl5 : ((pre ++ txt dx (j + 1)) ++ List.replicate m 48).length + 1 ≤ 140737488355328 := by rw [List.length_append, List.length_replicate]; omega
              have e11 : ((Lib.nDigits dl + m : Nat) : Int) + 1 = ((Lib.nDigits dl + (m + 1) : Nat) : Int) := by omega
              have hrep : List.replicate m (48 : UInt8) ++ [48] = List.replicate (m + 1) 48 := by rw [List.replicate_succ']
              have HREP := hide hrep
              clear hrep
              have hm1 : m + 1 + (gk - 1) = 9 - Lib.nDigits dl := by omega
              have HM := hide hm
              have HM1 := hide hm1
              clear hm hm1
              generalize hnm : ((Lib.nDigits dl + m : Nat) : Int) = nm at *
              have HNM := hide hnm
              clear hnm
              go_wp2_with fail
              refine (writeByte_tx si 48 _ rfl hl5).mono ?_
              rintro e w6 ⟨rfl, s6⟩
              rw [List.append_assoc, HREP.out] at s6
              clear si hl5
              go_wp2_with fail
              go_roundg (gk - 1)
              case measure => omega
              case rel => exact ⟨m + 1, HM1.out, rfl, s6⟩
end Go.Proofs.YtphjffbldhhdiaaGreatDoor

namespace Go.Proofs.YtphjffbldhhdiaaGreatDoor
open Go.RowKit

theorem sm_small {z : Int} (h : z.natAbs < BB ^ 10) : Sm z := by
  have := dg_len BB2 h
  unfold Sm len; omega

/-- An integer as it came in. -/
structure Raw where
  neg : Bool
  at_ : Option Addr
  cap : Nat
  ds : List Nat
def Raw.odd (r : Raw) : Bool := decide (10 < r.ds.length) || !rightB r.neg r.ds
end Go.Proofs.YtphjffbldhhdiaaGreatDoor

namespace Go.Proofs.YtphjffbldhhdiaaGreatDoor
open Go.RowKit

end Go.Proofs.YtphjffbldhhdiaaGreatDoor

namespace Go.Proofs.YtphjffbldhhdiaaGreatDoor
open Go.RowKit

def Raw.val (r : Raw) : Value := .agg #[.bool r.neg, .slice r.at_ r.ds.length r.cap]
/-- An integer came in whole. -/
structure RawOk (w : World) (r : Raw) : Prop where
  dig : Dg .u32 w r.at_ r.ds
  fit : Fit r.at_ r.ds.length r.cap
  max : r.ds.length ≤ 9223372036854775807
theorem RawOk.int {w : World} {r : Raw} (h : RawOk w r) (ho : r.odd = false) : ∃ z : Int, IntV w r.val z ∧ len z ≤ 10 := by
  obtain ⟨n, a, c, ds⟩ := r
  simp only [Raw.odd, Bool.or_eq_false_iff, Bool.not_eq_false'] at ho
  obtain ⟨z, h1, h2⟩ := rightB_val ho.2
  subst h1 h2
  exact ⟨z, ⟨a, c, rfl, h.fit, h.dig⟩, by simpa [len] using ho.1⟩
theorem RawOk.below {w w' : World} {B : Nat} {r : Raw} (h : RawOk w r) (hb : Below B w w') (hB : w.heap.size ≤ B) : RawOk w' r := ⟨h.dig.below hb hB, h.fit, h.max⟩
theorem sm10 {z : Int} (h : len z ≤ 10) : Sm z := by unfold Sm; omega
/-- Three integers in boxes. -/
def Three (w : World) (B : Nat) (x y z : Raw) (c : World) : Prop :=
  Blk c B 37 #[.bool x.neg, .slice x.at_ x.ds.length x.cap] ∧ Blk c (B + 1) 37 #[.bool y.neg, .slice y.at_ y.ds.length y.cap] ∧ Blk c (B + 2) 37 #[.bool z.neg, .slice z.at_ z.ds.length z.cap] ∧ Below w.heap.size w c
theorem Three.grow {w c c' : World} {B : Nat} {x y z : Raw} (h : Three w B x y z c) (hb : Below c.heap.size c c') : Three w B x y z c' :=
  ⟨h.1.below hb h.1.lt, h.2.1.below hb h.2.1.lt, h.2.2.1.below hb h.2.2.1.lt, h.2.2.2.trans (hb.mono h.2.2.2.size)⟩


section
variable {w c : World} {x y : Int} {u v : Value}
theorem Mul_at (hx : IntV w u x) (hy : IntV w v y) (hn : Sm x) (hm : Sm y) (hB : Below w.heap.size w c) : Calls Tryz.prog 40 #[u, v] c (IntPost c (x * y)) := Mul_any c (hx.below hB (Nat.le_refl _)) (hy.below hB (Nat.le_refl _)) hn hm
theorem Cmp_at (hx : IntV w u x) (hy : IntV w v y) (hn : Sm x) (hm : Sm y) (hB : Below w.heap.size w c) {C : Int} (hC : ordZ x y = C) : Calls Tryz.prog 69 #[u, v] c fun e w' => e = .returned (.int .i64 C) ∧ Below c.heap.size c w' := by
  subst hC
  exact (Cmp_any c (hx.below hB (Nat.le_refl _)) (hy.below hB (Nat.le_refl _)) hn hm)
end
end Go.Proofs.YtphjffbldhhdiaaGreatDoor

namespace Go.Proofs.YtphjffbldhhdiaaGreatDoor
open Go.RowKit

end Go.Proofs.YtphjffbldhhdiaaGreatDoor

namespace Go.Proofs.YtphjffbldhhdiaaGreatDoor
open Go.RowKit

theorem nDigits_le : ∀ (k n : Nat), n < 10 ^ (k + 1) → Lib.nDigits n ≤ k + 1
  | k, n, h => (fix_pad k n h).1
theorem nDigits_len {x : Int} (h : len x ≤ 20) : Lib.nDigits x.natAbs ≤ 181 := by
  refine nDigits_le 180 _ ?_
  have k1 := dg_lt BB2 x.natAbs
  have k2 : BB ^ (dg BB x.natAbs).length ≤ BB ^ 20 := Nat.pow_le_pow_right (by decide) h
  have k3 : BB ^ 20 = 10 ^ (9 * 20) := by rw [show BB = 10 ^ 9 from rfl, ← Nat.pow_mul]
  have k4 : 10 ^ (9 * 20) ≤ 10 ^ (180 + 1) := Nat.pow_le_pow_right (by decide) (by decide)
  exact Nat.lt_of_lt_of_le k1 (Nat.le_trans k2 (k3 ▸ k4))
theorem len_neg (x : Int) : len (-x) = len x := by unfold len; rw [Int.natAbs_neg]
theorem len_le {x y : Int} (h : x.natAbs ≤ y.natAbs) : len x ≤ len y := dg_len_mono BB2 h
end Go.Proofs.YtphjffbldhhdiaaGreatDoor

namespace Go.Proofs.YtphjffbldhhdiaaGreatDoor
open Go.ChangeShapes Go.WideShapes Go.ChangeAt Go.RowKit

theorem own : ownKnob Tryz.prog.godebug = none := by kernel_rfl
theorem laidOut : laidOutB Tryz.prog = true := by kernel_rfl

/-- What the rows list. -/
abbrev laidB : List (String × DataW Unit) := [("math/bits.deBruijn32tab", Rows.laid_math_bits_deBruijn32tab), ("math/bits.deBruijn64tab", Rows.laid_math_bits_deBruijn64tab), ("internal/strconv.uint64pow10", Rows.laid_internal_strconv_uint64pow10)]

set_option maxRecDepth 100000 in
theorem tab_of {W : World} (h : laidMetH Tryz.prog laidB W) : Tab W := by
  rw [MakeChecks.laidMetH_plain _ _ _ (by kernel_rfl)] at h
  have h1 := laidMet.filter (fun x => x.1 == "internal/strconv.uint64pow10") h
  have e : laidB.filter (fun x => x.1 == "internal/strconv.uint64pow10") = [("internal/strconv.uint64pow10", Lib.tabData .u64 Lib.pow10Tab)] := by rfl
  rw [e] at h1
  exact Lib.tabIs_of_head (g := 0) (by kernel_rfl) (by kernel_rfl) Tryz.underlying140 Tryz.underlying104 (by kernel_rfl) (by kernel_rfl) h1

set_option maxRecDepth 100000 in
/-- A law's step, where the row lists variables and the world's shape is asked for. -/
theorem handed {H : Type} {enc : TypeId × Value → H} {os : Os} {f : FuncId} {fn : Func} {s : ChangeSpec} {conds : List PathCond} {X : World → Array Value → Prop}
    (hX : ∀ (w w' : World) (args : Array Value), w.heap = w'.heap → X w args → X w' args)
    (started : os.Started) (noInit : Tryz.checked.prog.inits.idxOf? f = none) (hfn : Tryz.checked.prog.funcs[f]? = some fn)
    (witness : ∃ (w : World) (tape : Tape) (i : Input), w.os = os ∧ (w.forCall tape i).Shaped Tryz.checked.prog ∧ i.vars = [] ∧ Input.okWide Tryz.checked.prog (w.forCall tape i) .any w.heap.size f i ∧
      ((s.pre enc Tryz.checked.prog fn conds false (w.forCall tape i).memory i.args ∧ X (w.forCall tape i).memory i.args) ∧ sizedMet enc Tryz.checked.prog fn (OpenSpec.ofChange s) false (w.forCall tape i).memory i.args) ∧ Assume.holds {} Tryz.checked.prog (lone (Frame.enter Tryz.checked.prog f i.args .normal) [] (w.forCall tape i)))
    (contract : ∀ (W : World) (base : Nat) (args : Array Value) (ds gs : List (DataW H)) (before : List MemPlace),
      (∀ (j : Nat) t v, fn.params[j]? = some t → args[j]? = some v → Value.okWide Tryz.checked.prog W .any base t v) →
      DataW.Whole enc Tryz.checked.prog fn.params.toList s.vars false W args.toList ds gs before →
      (DataW.weightsEach Tryz.checked.prog (fn.params.toList ++ s.plain.varTypes Tryz.checked.prog) (ds ++ gs)).all (· ≤ reachBytes) = true → X W args → W.ShapedOpen Tryz.checked.prog →
      Calls Tryz.checked.prog f args W fun e W' => ∃ v, e = .returned v ∧ s.post enc Tryz.checked.prog fn false true false false W args v W') :
    ReturnsInHanded {} Tryz.checked os f .any (fun w args => (s.pre enc Tryz.checked.prog fn conds false w args ∧ X w args) ∧ sizedMet enc Tryz.checked.prog fn (OpenSpec.ofChange s) false w args) (s.post enc Tryz.checked.prog fn false true false false) := by
  refine returnsInHanded_of_calls own started noInit witness ?_
  intro w tape i _ hsh _ hok hpre _
  obtain ⟨_, _, _, fn', hfn', _, _, _, _, hval⟩ := hok
  have e : fn' = fn := Option.some.inj (hfn'.symm.trans hfn)
  subst e
  obtain ⟨⟨⟨ds, gs, before, hw, _⟩, hx⟩, hz⟩ := hpre
  have hw' := DataW.Whole.of_heap (w' := w.forCall tape i) (by rfl) hw
  refine (contract (w.forCall tape i) w.heap.size i.args ds gs before hval hw' (hz.weights hw) (hX _ _ _ (by rfl) hx) hsh).mono fun e W' ⟨v, he, hp⟩ => ?_
  subst he
  exact ChangeSpec.post_blind hp


theorem spot_none {w : World} {x : Addr} {v : Value} (h : w.cell? x = some v) : x = ⟨x.block, x.off, none⟩ := by
  obtain ⟨b, o, s⟩ := x
  cases s with
  | none => rfl
  | some y =>
    unfold World.cell? at h
    split at h
    · simp at h
    · cases h

set_option maxRecDepth 100000 in
/-- A slice of digits that came in. -/
theorem open_digits {H : Type} {enc : TypeId × Value → H} {W : World} {n : Nat} {v : Value} {y : DataW H × List MemPlace} (h : DataW.trod enc Tryz.prog W 0 (fun _ => true) true n 35 [v] = some y) :
    ∃ (a : Option Addr) (cap : Nat) (ds : List Nat), v = .slice a ds.length cap ∧ Dg .u32 W a ds ∧ Fit a ds.length cap ∧ ds.length ≤ 9223372036854775807 := by
  rcases open_ints Tryz.underlying35 Tryz.underlying93 (by kernel_rfl) h with ⟨hcs, _⟩ | ⟨x, l, c, zs, hcs, _, hl, hm, hz, _, hcell, hwz⟩
  · simp at hcs
    subst hcs
    exact ⟨none, 0, [], rfl, Dg.nil _ _, ⟨Nat.le_refl _, fun _ => rfl⟩, by simp⟩
  · simp at hcs
    subst hcs
    simp only [if_true] at hz
    have hlen : ((zs.take l).map Int.toNat).length = l := by simp; omega
    refine ⟨some x, c, (zs.take l).map Int.toNat, by rw [hlen], ?_, ⟨by rw [hlen]; exact hl, fun h => by cases h⟩, by rw [hlen]; unfold maxLen at hm; omega⟩
    intro hn
    rw [hlen] at hn
    have h0 := hcell 0 (by omega)
    have hx : x = ⟨x.block, x.off, none⟩ := spot_none (by simpa [Addr.add] using h0)
    refine ⟨x.block, x.off, by rw [← hx], fun i hi => ?_⟩
    rw [hlen] at hi
    have h1 := hcell i (by omega)
    rw [hx, add_plain] at h1
    rw [h1]
    have h2 : zs.getD i 0 = zs[i]'(by omega) := by simp [List.getD, List.getElem?_eq_getElem (show i < zs.length by omega)]
    have h3 : 0 ≤ zs[i]'(by omega) := by
      have := hwz _ (List.getElem_mem (show i < zs.length by omega))
      have hmin : IntKind.u32.min = 0 := rfl
      simp [Lit.wf, hmin] at this
      omega
    rw [h2]
    simp
    omega

end Go.Proofs.YtphjffbldhhdiaaGreatDoor
