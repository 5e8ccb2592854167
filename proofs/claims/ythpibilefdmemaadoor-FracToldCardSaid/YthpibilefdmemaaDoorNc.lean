/- Texts on integers, in one file: RSmall, DecLaw, Fmt, Builder, Text, Lead, Small, Three, Parse, RuleLaw, NumLaw. -/
import Derived.Test.YthpibilefdmemaaDoorNa
import Derived.Lib.ItoaNum
import Derived.Test.YthpibilefdmemaaDoorShelf
import Derived.Lib.Walk
import Derived.Lib.ItoaWalk
import Derived.Lib.ItoaMem
import Derived.Lib.AppendIntMem
import Derived.Lib.Strings
import Derived.Lib.Slices
import Derived.Lib.Builder
import Derived.Lib.AppendStr
import Derived.Lib.UnsafeStr
import Derived.Test.YthpibilefdmemaaDoorNb
import Derived.Test.YthpibilefdmemaaDoorRows
import Derived.WalkKit
import Derived.ProofKit
import Derived.OpenShut
import Derived.ShutString
import Derived.ChangeOld
import Derived.ChangeMaps5
import Derived.ChangeArms
import Derived.ChangeSlices
import Derived.Below
import Derived.Carry
import Derived.LaidMore
import Derived.LaidSub
import Derived.Lay
import Derived.SevenTiedAt
import Derived.Stop.Joined
import Derived.HandedShaped
import Derived.Shelf.Vars
import Derived.Lib.SmallJoins
import Derived.Lib.LaidTab
namespace Go.Proofs.YthpibilefdmemaaDoor
open Go.RowKit

set_option maxHeartbeats 800000 in
theorem RRight_any (neg : Bool) (a : Option Addr) (cap : Nat) (ds : List Nat) (w : World) (hd : Dg .u32 w a ds) (hn : ds.length ≤ 9223372036854775807) :
    Calls Tryd.prog 17 #[.agg #[.bool neg, .slice a ds.length cap]] w fun e w' => e = .returned (.bool (rightB neg ds)) ∧ Below w.heap.size w w' := by
  generalize hr : rightB neg ds = r
  have HR := hide hr
  clear hr
  have hb0 : Below w.heap.size w (w.alloc (.cells #[.bool neg, .slice a ds.length cap] 24)) := (Below.refl _ _).alloc (Nat.le_refl _) _
  have hX := Blk.new w 24 #[.bool neg, .slice a ds.length cap]
  have hd0 := hd.below hb0 (Nat.le_refl _)
  go_enter Tryd.func17, Tryd.ntmps17
  go_wp2_with fail
  generalize hW : w.alloc (.cells #[.bool neg, .slice a ds.length cap] 24) = W at hb0 hX hd0 ⊢
  clear hW
  obtain ⟨c0, c1, -⟩ := hX.c2
  go_loop [3] (fun v => ∃ j : Nat, j ≤ ds.length ∧ v = .int .i64 (j : Int) ∧ (ds.take j).all (fun d => decide (d < BB)) = true) (fun v => ds.length - (intOf v).toNat)
  case atStart => exact ⟨0, Nat.zero_le _, rfl, by simp⟩
  case round =>
    obtain ⟨j, hj, rfl, hall⟩ := hrel
    have HA := hide hall
    clear hall
    rcases Nat.lt_or_ge j ds.length with hlt | hge
    · obtain ⟨b, off, rfl, hc, _⟩ := hd0.at hlt
      have hsn := List.take_succ_eq_append_getElem hlt
      have hmem : ds[j] ∈ ds := List.getElem_mem hlt
      by_cases hbig : ds[j] < BB
      · have hlt2 : ¬ (999999999 : Int) < (ds[j] : Int) := by have := BB_eq; omega
        have HN : Hid ((ds.take (j + 1)).all (fun d => decide (d < BB)) = true) := hide (by rw [hsn, List.all_append, HA.out]; simp [hbig])
        generalize ds[j] = d at hc hlt2
        clear hsn hmem hbig
        go_wp2_with fail
        go_round
        case rel => exact ⟨j + 1, by omega, by go_num, HN.out⟩
        case measure => simp [intOf]; omega
      · have hge2 : (999999999 : Int) < (ds[j] : Int) := by have := BB_eq; omega
        have hf : rightB neg ds = false := by
          unfold rightB
          rw [if_neg (by intro h; rw [List.isEmpty_iff.1 h] at hlt; simp at hlt)]
          have : ds.all (fun d => decide (d < BB)) = false := by
            rw [List.all_eq_false]
            exact ⟨_, hmem, by simpa using hbig⟩
          rw [this]; rfl
        have HF := hide hf
        generalize ds[j] = d at hc hge2
        clear hsn hmem hbig hf
        go_wp2_with fail
        go_ret
        exact ⟨by rw [← HR.out, HF.out]; rfl, hb0⟩
    · obtain rfl : j = ds.length := by omega
      rcases Nat.eq_zero_or_pos ds.length with h0 | h0
      · obtain rfl := List.eq_nil_of_length_eq_zero h0
        go_wp2_with fail
        go_ret
        exact ⟨by rw [← HR.out]; rfl, hb0⟩
      · have e0 : ((ds.length : Int) == 0) = false := beq_eq_false_iff_ne.2 (by omega)
        obtain ⟨b, off, rfl, hc, _⟩ := hd0.at (i := ds.length - 1) (by omega)
        have hl : ds.getLastD 1 = ds[ds.length - 1] := by
          rcases snoc_cases ds with rfl | ⟨r, d, rfl⟩
          · simp at h0
          · simp
        have hv : rightB neg ds = !(ds[ds.length - 1] == 0) := by
          unfold rightB
          rw [if_neg (by intro h; rw [List.isEmpty_iff.1 h] at h0; simp at h0)]
          have h := HA.out
          rw [List.take_length] at h
          rw [h, hl]; rfl
        have HV := hide hv
        generalize ds[ds.length - 1] = d at hc HV
        clear hl hv
        cases hz : (d == 0) with
        | true =>
          obtain rfl : d = 0 := by simpa using hz
          go_wp2_with fail
          go_ret
          exact ⟨by rw [← HR.out, HV.out]; rfl, hb0⟩
        | false =>
          have e1 : ((d : Int) != 0) = true := by simp at hz ⊢; omega
          have e2 : ((d : Int) == 0) = false := by simp at hz ⊢; omega
          go_wp2_with fail
          go_ret
          exact ⟨by rw [← HR.out, HV.out, hz]; rfl, hb0⟩

set_option maxRecDepth 100000 in
set_option maxHeartbeats 1600000 in
theorem Same_raw (n m : Bool) (a b : Option Addr) (ca cb : Nat) (x y : List Nat) (w : World) (hx : Dg .u32 w a x) (hy : Dg .u32 w b y) (hl : x.length ≤ 1099511627776) :
    Calls Tryd.prog 14 #[.agg #[.bool n, .slice a x.length ca], .agg #[.bool m, .slice b y.length cb]] w fun e w' => e = .returned (.bool (decide (n = m ∧ x = y))) ∧ Below w.heap.size w w' := by
  generalize hr : decide (n = m ∧ x = y) = r
  have HR := hide hr
  clear hr
  have hX0 := Blk.new w 24 #[.bool n, .slice a x.length ca]
  have hX := hX0.alloc (.cells #[.bool m, .slice b y.length cb] 24)
  have hY := Blk.new (w.alloc (.cells #[.bool n, .slice a x.length ca] 24)) 24 #[.bool m, .slice b y.length cb]
  have hb0 : Below w.heap.size w ((w.alloc (.cells #[.bool n, .slice a x.length ca] 24)).alloc (.cells #[.bool m, .slice b y.length cb] 24)) := ((Below.refl _ _).alloc (Nat.le_refl _) _).alloc (by simp) _
  clear hX0
  have hx0 := hx.below hb0 (Nat.le_refl _)
  have hy0 := hy.below hb0 (Nat.le_refl _)
  by_cases hnm : n = m
  · subst hnm
    by_cases hlen : x.length = y.length
    · have e0 : ((x.length : Int) != (y.length : Int)) = false := by simp; omega
      have e0' : ((x.length : Int) == (y.length : Int)) = true := by simp; omega
      have HL := hide hlen
      clear hlen
      go_enter Tryd.func14, Tryd.ntmps14
      have hsz : (w.alloc (.cells #[.bool n, .slice a x.length ca] 24)).heap.size = w.heap.size + 1 := by simp
      rw [hsz] at hY
      obtain ⟨c0, c1, cf⟩ := hX.c2
      obtain ⟨d0, d1, df⟩ := hY.c2
      go_wp2_with fail
      generalize (w.alloc (.cells #[.bool n, .slice a x.length ca] 24)).alloc (.cells #[.bool n, .slice b y.length cb] 24) = W at *
      go_loopg [5] x.length (fun k v wr => ∃ (j q : Nat), j + k = x.length ∧ v = .int .i64 (j : Int) ∧ Hid (x.take j = y.take j) ∧ wr = W.drewN q)
      case atStart => exact ⟨0, 0, by omega, rfl, hide (by simp), rfl⟩
      case round =>
        obtain ⟨j, q, hjk, rfl, HT, rfl⟩ := hrel
        rcases Nat.eq_zero_or_pos gk with h0 | h0
        · subst h0
          obtain rfl : j = x.length := by omega
          have HV : Hid (decide (True ∧ x = y) = true) := hide (by
            have h := HT.out
            rw [List.take_length, HL.out, List.take_length] at h
            simp [h])
          go_wp2_with fail
          go_ret
          exact ⟨by rw [← HR.out, HV.out]; rfl, below_drewN hb0 _⟩
        · have hj1 : j < x.length := by omega
          have hj2 : j < y.length := by have := HL.out; omega
          obtain ⟨p, po, rfl, hc, _⟩ := hx0.at hj1
          obtain ⟨p', po', rfl, hd, _⟩ := hy0.at hj2
          have HU1 : Hid (x[j] = y[j] → x.take (j + 1) = y.take (j + 1)) := hide (fun h => by
            rw [List.take_succ_eq_append_getElem hj1, List.take_succ_eq_append_getElem hj2, HT.out, h])
          have HU2 : Hid (x[j] ≠ y[j] → decide (True ∧ x = y) = false) := hide (fun h => by
            simp
            rintro rfl
            exact h rfl)
          generalize x[j] = c at hc HU1 HU2
          generalize y[j] = d at hd HU1 HU2
          by_cases hcd : c = d
          · subst hcd
            have HV := hide (HU1.out rfl)
            have t1 : ((c : Int) != (c : Int)) = false := by simp
            clear HU1 HU2
            go_wp2_with fail
            go_quiet (fail)
            go_wp2_with fail
            go_roundg (gk - 1)
            case measure => omega
            case rel => exact ⟨j + 1, _, by omega, by go_num, HV, rfl⟩
          · have HV := hide (HU2.out hcd)
            have t1 : ((c : Int) != (d : Int)) = true := by simp; omega
            have t1' : ((c : Int) == (d : Int)) = false := by simp; omega
            clear HU1 HU2
            go_wp2_with fail
            go_quiet (fail)
            go_wp2_with fail
            go_ret
            refine ⟨by rw [← HR.out, HV.out]; rfl, ?_⟩
            obtain ⟨k, hk⟩ := @drew2 W q _
            rw [hk]
            exact below_drewN hb0 _
    · have e0 : ((x.length : Int) != (y.length : Int)) = true := by simp; omega
      have HV : Hid (decide (n = n ∧ x = y) = false) := hide (by simp; intro h; rw [h] at hlen; exact hlen rfl)
      go_enter Tryd.func14, Tryd.ntmps14
      go_wp2_with fail
      go_ret
      exact ⟨by rw [← HR.out, HV.out]; rfl, hb0⟩
  · have HV : Hid (decide (n = m ∧ x = y) = false) := hide (by simp; intro h; exact absurd h hnm)
    have e0 : (n != m) = true := by cases n <;> cases m <;> simp at hnm ⊢
    go_enter Tryd.func14, Tryd.ntmps14
    go_wp2_with fail
    go_ret
    exact ⟨by rw [← HR.out, HV.out]; rfl, hb0⟩

theorem Same_any {x y : Int} {u v : Value} (w : World) (hx : IntV w u x) (hy : IntV w v y) (hn : Sm x) :
    Calls Tryd.prog 14 #[u, v] w fun e w' => e = .returned (.bool (decide (x = y))) ∧ Below w.heap.size w w' := by
  obtain ⟨a, ca, rfl, _, hd⟩ := hx
  obtain ⟨b, cb, rfl, _, he⟩ := hy
  have e : decide (decide (x < 0) = decide (y < 0) ∧ dg BB x.natAbs = dg BB y.natAbs) = decide (x = y) := by
    have h : (decide (x < 0) = decide (y < 0) ∧ dg BB x.natAbs = dg BB y.natAbs) ↔ x = y := by
      constructor
      · rintro ⟨h1, h2⟩
        have h3 : x.natAbs = y.natAbs := by rw [← dg_val BB2 x.natAbs, h2, dg_val BB2]
        have h4 : x < 0 ↔ y < 0 := by simpa using h1
        omega
      · rintro rfl; exact ⟨rfl, rfl⟩
    exact decide_eq_decide.2 h
  rw [← e]
  exact Same_raw _ _ a b ca cb _ _ w hd he hn
end Go.Proofs.YthpibilefdmemaaDoor

namespace Go.Proofs.YthpibilefdmemaaDoor
open Go.RowKit

/-- k decimal digits of u, the first ahead. -/
def fix : Nat → Nat → List UInt8
  | 0, _ => []
  | k + 1, u => fix k (u / 10) ++ [UInt8.ofNat (48 + u % 10)]
theorem fix_len : ∀ (k u : Nat), (fix k u).length = k
  | 0, _ => rfl
  | k + 1, u => by simp [fix, fix_len k]
theorem fix_zero : ∀ k : Nat, fix k 0 = List.replicate k 48
  | 0 => rfl
  | k + 1 => by
    rw [fix, fix_zero k, List.replicate_succ']
    rfl
theorem fix_pad : ∀ (k u : Nat), u < 10 ^ (k + 1) → Lib.nDigits u ≤ k + 1 ∧ fix (k + 1) u = List.replicate (k + 1 - Lib.nDigits u) 48 ++ Lib.decDigits u
  | k, u, h => by
    by_cases h10 : u < 10
    · rw [Lib.nDigits_small h10, Lib.decDigits_one h10, fix, show u / 10 = 0 by omega, fix_zero, show u % 10 = u by omega]
      exact ⟨by omega, rfl⟩
    · cases k with
      | zero => simp at h; omega
      | succ k =>
        obtain ⟨h1, h2⟩ := fix_pad k (u / 10) (by rw [Nat.pow_succ] at h; omega)
        rw [Lib.nDigits_big h10, Lib.decDigits, dif_neg h10, fix, h2, List.append_assoc]
        exact ⟨by omega, by rw [show k + 1 + 1 - (Lib.nDigits (u / 10) + 1) = k + 1 - Lib.nDigits (u / 10) by omega]⟩
theorem dec_split : ∀ (k q r : Nat), 1 ≤ q → r < 10 ^ k → Lib.decDigits (q * 10 ^ k + r) = Lib.decDigits q ++ fix k r
  | 0, q, r, _, hr => by
    obtain rfl : r = 0 := by simpa using hr
    simp [fix]
  | k + 1, q, r, hq, hr => by
    have hp : 1 ≤ 10 ^ k := Nat.one_le_pow _ _ (by decide)
    have hqp : 10 ^ k ≤ q * 10 ^ k := Nat.le_mul_of_pos_left _ hq
    have e : q * 10 ^ (k + 1) = (q * 10 ^ k) * 10 := by rw [Nat.pow_succ, Nat.mul_assoc]
    rw [Nat.pow_succ] at hr
    rw [e]
    have ih := dec_split k q (r / 10) hq (by omega)
    generalize q * 10 ^ k = m at *
    rw [Lib.decDigits, dif_neg (by omega), show (m * 10 + r) / 10 = m + r / 10 by omega, ih, show (m * 10 + r) % 10 = r % 10 by omega, fix, List.append_assoc]

/-- The text of the digits from the greatest one down to j. -/
def txt (ds : List Nat) (j : Nat) : List UInt8 := Lib.decDigits (val BB (ds.drop j))
theorem val_drop_pos {ds : List Nat} (hc : Canon BB ds) {j : Nat} (hj : j < ds.length) : 0 < val BB (ds.drop j) := by
  refine Canon.pos (by rw [BB_eq]; decide) ⟨hc.1.drop j, ?_⟩ (by intro h; rw [List.drop_eq_nil_iff] at h; omega)
  rw [List.getLast?_drop, if_neg (by omega)]
  exact hc.2
theorem txt_step {ds : List Nat} (hc : Canon BB ds) {j : Nat} (hj : j + 1 < ds.length) : txt ds j = txt ds (j + 1) ++ (List.replicate (9 - Lib.nDigits ds[j]) 48 ++ Lib.decDigits ds[j]) := by
  have h9 : ds[j] < 10 ^ 9 := hc.1.at (by omega)
  unfold txt
  rw [List.drop_eq_getElem_cons (show j < ds.length by omega)]
  show Lib.decDigits (ds[j] + BB * val BB (ds.drop (j + 1))) = _
  have hp := val_drop_pos hc hj
  generalize val BB (ds.drop (j + 1)) = V at hp
  rw [Nat.add_comm, Nat.mul_comm, show BB = 10 ^ 9 from rfl, dec_split 9 _ _ hp h9, (fix_pad 8 ds[j] h9).2]
theorem nDigits9 {d : Nat} (h : d < BB) : Lib.nDigits d ≤ 9 := (fix_pad 8 d h).1
theorem txt_last {ds : List Nat} {j : Nat} (hj : j + 1 = ds.length) : txt ds j = Lib.decDigits (ds[j]'(by omega)) := by
  unfold txt
  rw [List.drop_eq_getElem_cons (show j < ds.length by omega), List.drop_of_length_le (by omega)]
  simp [val]
/-- A number's text. -/
def decZ (z : Int) : List UInt8 := (if z < 0 then [45] else []) ++ Lib.decDigits z.natAbs
end Go.Proofs.YthpibilefdmemaaDoor

namespace Go.Proofs.YthpibilefdmemaaDoor
open Go.RowKit Go.Sort

/-- The table of powers that the library reads. -/
def Tab (w : World) : Prop := Lib.TabIs Tryd.prog w "internal/strconv.uint64pow10" .u64 Lib.pow10Tab

/-- What FormatUint leaves. -/
def FmtPost (w : World) (u : Nat) (e : Ending) (w' : World) : Prop := e = .returned (.string ⟨(Lib.decDigits u).toArray⟩) ∧ Below w.heap.size w w'

theorem below_putRow {w : World} {o : Obj} (dk : Array UInt8) (k : Nat) : Below w.heap.size w ((putRow (fun (b : UInt8) => Value.int .u8 (b.toNat : Int)) (w.alloc o) w.heap.size 0 dk).drewN k) := by
  rw [alloc_eq_grow]
  obtain ⟨os', _, e⟩ := putRow_grow_new (fun (b : UInt8) => Value.int .u8 (b.toNat : Int)) w #[o] w.heap.size 0 dk (Nat.le_refl _)
  rw [e]
  exact Lib.below_grow w.heap.size w (Nat.le_refl _) k os'
theorem Tab.below {w w' : World} (h : Tab w) (hb : Below w.heap.size w w') : Tab w' := Lib.tabBelow_of_tabIs h w' hb

set_option maxHeartbeats 3200000 in
set_option maxRecDepth 100000 in
theorem fmtInner_any (u : Nat) (hu64 : u < 18446744073709551616) (w : World) (htab : Tab w) :
    Calls Tryd.prog 84 #[.int .u64 u, .int .i64 10] w (FmtPost w u) := by
  generalize hP : FmtPost w u = Post
  have HP := hide hP
  clear hP
  rcases Nat.lt_or_ge u 100 with hs | hs
  · have hsd : decide (u < 100) = true := decide_eq_true hs
    go_enter Tryd.func84, Tryd.ntmps84
    go_wp2_with (go_at_call 90; refine (Tryd.internal_strconv_small u hs _).mono ?_; rintro e w' ⟨rfl, rfl⟩)
    rw [← HP.out]
    exact ⟨rfl, Below.refl _ _⟩
  · have hu1 : 1 ≤ u := by omega
    have hnd20 : Lib.nDigits u ≤ 20 := by have := Lib.numDigits_eq u hu1 hu64; split at this <;> omega
    have hal : Tryd.prog.arrayLen 118 = 24 := by kernel_rfl
    have hsl : ∀ W, (Instr.sliceAt 118 (.pointer (some ⟨w.heap.size, 0, none⟩)) none (some (.int .i64 (Lib.nDigits u : Int))) none).run Tryd.prog W = .ok (.slice (some ⟨w.heap.size, 0, none⟩) (Lib.nDigits u) 24) W := fun W => by
      rw [run_sliceAt_array_h W 118 ⟨w.heap.size, 0, none⟩ (by simp [Program.arrayLen, Program.elem, Tryd.underlying118]) .i64 (Lib.nDigits u : Int) (by omega) (by rw [hal]; omega)]
      go_simp
    have hH0 := Lib.holds_zero0 w 118 (Lib.nDigits u) (by omega)
    have hfmt := Tryd.internal_strconv_formatBase10 w.heap.size 0 24 u (Array.replicate (Lib.nDigits u) 0) (w.alloc (.cells Lib.zeros24 118)) hH0 (by rw [Array.size_replicate]; exact Lib.lt_pow_nDigits u) hu64 (by rw [Array.size_replicate]; omega)
    rw [Array.size_replicate] at hfmt
    have HH0 := Lib.hid hH0
    have HF := Lib.hid hfmt
    have iu : decide (u < 100) = false := by simp; omega
    clear hH0 hal hfmt
    go_enter Tryd.func84, Tryd.ntmps84
    go_wp2_with (first
      | (go_at_call 91; refine (Tryd.internal_strconv_numDigits u hu1 hu64 _ (Lib.tabIs_alloc htab _)).mono ?_; rintro e w' ⟨rfl, rfl⟩))
    go_at_call 92
    refine HF.out.mono ?_
    rintro e w' ⟨rfl, k, v', dk, rfl, hF⟩
    have hcv : (convert 95 9 (.slice (some ⟨w.heap.size, 0, none⟩) (Lib.nDigits u) 24)).run Tryd.prog ((putRow (fun (b : UInt8) => Value.int .u8 (b.toNat : Int)) (w.alloc (.cells Lib.zeros24 118)) w.heap.size 0 dk).drewN k) = .ok (.string ⟨(Lib.decDigits u).toArray⟩) ((putRow (fun (b : UInt8) => Value.int .u8 (b.toNat : Int)) (w.alloc (.cells Lib.zeros24 118)) w.heap.size 0 dk).drewN k) := by
      have h := run_convert_bytes_back (P := Tryd.prog) ((putRow (fun (b : UInt8) => Value.int .u8 (b.toNat : Int)) (w.alloc (.cells Lib.zeros24 118)) w.heap.size 0 dk).drewN k) 95 9 5 ⟨w.heap.size, 0, none⟩ 24 (Lib.decDigits u) Tryd.underlying95 Tryd.underlying5 Tryd.underlying9 (fun j hj => by
        rw [Lib.row_is_numeral hF j hj, Lib.add_plain, World.cell?_drewN]
        exact cell?_putRow (fun (b : UInt8) => Value.int .u8 (b.toNat : Int)) _ w.heap.size 0 _ dk HH0.out (by rw [hF.size, Array.size_replicate]) j (by rw [hF.size]; rw [Lib.decDigits_length] at hj; exact hj))
      rw [Lib.decDigits_length] at h
      exact h
    go_wp2_with fail
    rw [← HP.out]
    exact ⟨rfl, below_putRow dk k⟩

theorem Fmt_any (u : Nat) (hu64 : u < 18446744073709551616) (w : World) (htab : Tab w) :
    Calls Tryd.prog 75 #[.int .u64 u, .int .i64 10] w (FmtPost w u) := by
  generalize hP : FmtPost w u = Post
  have HP := hide hP
  clear hP
  go_enter Tryd.func75, Tryd.ntmps75
  go_wp2_with fail
  refine (fmtInner_any u hu64 w htab).mono ?_
  rintro e w' ⟨rfl, hb⟩
  go_wp2_with fail
  rw [← HP.out]
  exact ⟨rfl, hb⟩
end Go.Proofs.YthpibilefdmemaaDoor

namespace Go.Proofs.YthpibilefdmemaaDoor
open Go.RowKit

theorem sizeBuilder : (Tryd.prog.info? 97).map (·.size) = some 2 := by kernel_rfl
theorem liesBuilder : liesAt Tryd.prog Tryd.prog.depth 97 (2 / Tryd.prog.cellsOf 97) 0 97 1 = true := by kernel_rfl
theorem infoByte : (Tryd.prog.info? 5).map (fun i => (i.zero, i.size, i.bytes)) = some (some (.int .u8 0), 1, 1) := by kernel_rfl

abbrev IsBuilder (B b : Nat) (bs : List Value) (w : World) : Prop := Lib.IsBuilder 97 5 B b bs w
abbrev BuilderAt (B b : Nat) (p : Value) (bs : List Value) (w : World) : Prop := Lib.BuilderAt 97 5 B b p bs w

set_option maxHeartbeats 1000000 in
set_option maxRecDepth 100000 in
theorem copyCheck_used (b : Nat) (w : World) (h0 : w.cell? ⟨b, 0, none⟩ = some (.pointer (some ⟨b, 0, none⟩))) :
    Calls Tryd.prog 83 #[.pointer (some ⟨b, 0, none⟩)] w fun e w' => e = .returned (.tuple #[]) ∧ w' = w := by
  obtain ⟨j, hj, _⟩ := Option.map_eq_some_iff.1 sizeBuilder
  go_enter Tryd.func83, Tryd.ntmps83
  go_wp2
  rw [Lib.run_neq_ptr_same w _ Tryd.underlying94 hj]
  go_wp2
  go_end0
  exact ⟨rfl, rfl⟩

set_option maxHeartbeats 1000000 in
set_option maxRecDepth 100000 in
theorem copyCheck_fresh (b : Nat) (w : World) (h0 : w.cell? ⟨b, 0, none⟩ = some (.pointer none)) (hsh : w.shape? b = some (97, 2)) (hfz : w.frozen? ⟨b, 0, none⟩ = false) :
    Calls Tryd.prog 83 #[.pointer (some ⟨b, 0, none⟩)] w fun e w' => e = .returned (.tuple #[]) ∧ w' = w.setCell ⟨b, 0, none⟩ (.pointer (some ⟨b, 0, none⟩)) := by
  obtain ⟨j, hj, hjs⟩ := Option.map_eq_some_iff.1 sizeBuilder
  go_enter Tryd.func83, Tryd.ntmps83
  go_wp2
  rw [Lib.run_to_unsafe w ⟨b, 0, none⟩ Tryd.underlying94 Tryd.underlying115 hj (by rw [hjs]; decide) hsh (Nat.zero_lt_succ 1)]
  simp only [Result.andThen]
  rw [Oper.upon_value]
  go_wp2
  rw [run_callFunc_extern Tryd.func89 (by kernel_rfl) (by kernel_rfl) (by kernel_rfl) (e := Extern.AbiNoEscape.same) (by kernel_rfl)]
  rw [Lib.run_noEscape]
  simp only [Result.andThen]
  rw [Oper.upon_value]
  go_wp2
  rw [Lib.run_from_unsafe w ⟨b, 0, none⟩ Tryd.underlying115 Tryd.underlying94 hj hsh liesBuilder]
  simp only [Result.andThen]
  rw [Oper.upon_value]
  go_wp2
  go_end0
  exact ⟨rfl, rfl⟩

theorem copyCheck_any (B b : Nat) (bs : List Value) (w : World) (h : IsBuilder B b bs w) :
    Calls Tryd.prog 83 #[.pointer (some ⟨b, 0, none⟩)] w fun e w' => e = .returned (.tuple #[]) ∧ (BuilderAt B b (.pointer (some ⟨b, 0, none⟩)) bs w' ∧ Below B w w') := by
  rcases h with h | h
  · refine (copyCheck_fresh b w h.cell0 h.shape h.frozen0).mono ?_
    rintro e w' ⟨rfl, rfl⟩
    exact ⟨rfl, h.used _, (Below.refl B w).setCell (p := ⟨b, 0, none⟩) h.1 _⟩
  · refine (copyCheck_used b w h.cell0).mono ?_
    rintro e w' ⟨rfl, rfl⟩
    exact ⟨rfl, h, Below.refl B _⟩

set_option maxHeartbeats 2000000 in
set_option maxRecDepth 100000 in
theorem writeByte_any (B b : Nat) (bs : List Value) (c : Int) (w : World) (h : IsBuilder B b bs w) (hlen : bs.length + 1 ≤ 140737488355328) (hBw : B ≤ w.heap.size) :
    Calls Tryd.prog 73 #[.pointer (some ⟨b, 0, none⟩), .int .u8 c] w fun e w' => e = .returned .nilIface ∧ (BuilderAt B b (.pointer (some ⟨b, 0, none⟩)) (bs ++ [.int .u8 c]) w' ∧ Below B w w') := by
  obtain ⟨i0, hi, hz0, hz1, hz2⟩ := info_parts infoByte
  go_enter Tryd.func73, Tryd.ntmps73
  go_wp2_with (go_at_call 83; refine (copyCheck_any B b bs _ h).mono ?_)
  rintro e w1 ⟨rfl, h1, hb1⟩
  obtain ⟨hB, v, hbk, hown, hne⟩ := h1
  have c0 : w1.cell? ⟨b, 0, none⟩ = some (.pointer (some ⟨b, 0, none⟩)) := by rw [Lib.cell_of_heap hbk]; rfl
  have c1 : w1.cell? ⟨b, 1, none⟩ = some v := by rw [Lib.cell_of_heap hbk]; rfl
  go_wp2_with (at_builtin; refine wpList_append_own _ rfl _ _ 95 rfl B 5 i0 (.int .u8 0) 1 1 Tryd.underlying95 hi hz0 hz1 hz2 rfl (by decide) _ _ _ rfl (hown.alloc _) ⟨w1.heap.size, 0, none⟩ 1 1 [.int .u8 c] rfl rfl ?c1 ?c2 ?c3 ?c4 ?c5 ?_)
  case c1 =>
    intro j u hj
    match j, hj with
    | 0, hj => simp at hj; subst hj; simp [Addr.add]
  case c2 => intro u hu; simp at hu; subst hu; rfl
  case c3 => unfold maxLen; omega
  case c4 => omega
  case c5 => have := hb1.size; simp; omega
  intro v' w2 hown' hgrow _
  have hlt : b < w1.heap.size := by
    rcases Nat.lt_or_ge b w1.heap.size with h' | h'
    · exact h'
    · simp [Array.getElem?_eq_none h'] at hbk
  have hb2 : w2.heap[b]? = some (.cells #[.pointer (some ⟨b, 0, none⟩), v] 97 (0, 0)) := by
    rw [hgrow.block b (by simp; omega) (fun e => hne e.symm), Lib.alloc_old w1 _ b hlt]
    exact hbk
  have d0 : w2.cell? ⟨b, 0, none⟩ = some (.pointer (some ⟨b, 0, none⟩)) := by rw [Lib.cell_of_heap hb2]; rfl
  have d1 : w2.cell? ⟨b, 1, none⟩ = some v := by rw [Lib.cell_of_heap hb2]; rfl
  have f1 : w2.frozen? ⟨b, 1, none⟩ = false := Lib.frozen_of_heap hb2 1
  obtain ⟨g, cap, rfl⟩ : ∃ g cap, v' = .slice (some ⟨g, 0, none⟩) (bs.length + 1) cap := by
    rcases hown'.2 with ⟨_, h0⟩ | ⟨g, cap, cur, hv, _⟩
    · omega
    · exact ⟨g, cap, hv⟩
  go_wp2
  go_ret
  refine ⟨rfl, ?_, ?_⟩
  · exact Lib.BuilderAt.put (T := 97) (e := 5) hB hb2 (bs' := bs ++ [.int .u8 c]) (by simpa using hown') (by decide)
  · exact ((hb1.alloc (by have := hb1.size; omega) _).grown hgrow (by have := hb1.size; simp; omega) (fun k hk => (hown.lt k hk).1)).setCell (p := ⟨b, 1, none⟩) hB _

set_option maxHeartbeats 2000000 in
set_option maxRecDepth 100000 in
theorem writeString_any (B b : Nat) (bs : List Value) (s : ByteArray) (w : World) (h : IsBuilder B b bs w) (hlen : bs.length + s.size ≤ 140737488355328) (hBw : B ≤ w.heap.size) :
    Calls Tryd.prog 74 #[.pointer (some ⟨b, 0, none⟩), .string s] w fun e w' => e = .returned (.tuple #[.int .i64 s.size, .nilIface]) ∧ (BuilderAt B b (.pointer (some ⟨b, 0, none⟩)) (bs ++ Lib.strCells s) w' ∧ Below B w w') := by
  obtain ⟨i0, hi, hz0, hz1, hz2⟩ := info_parts infoByte
  go_enter Tryd.func74, Tryd.ntmps74
  go_wp2_with (go_at_call 83; refine (copyCheck_any B b bs _ h).mono ?_)
  rintro e w1 ⟨rfl, h1, hb1⟩
  obtain ⟨hB, v, hbk, hown, hne⟩ := h1
  have c0 : w1.cell? ⟨b, 0, none⟩ = some (.pointer (some ⟨b, 0, none⟩)) := by rw [Lib.cell_of_heap hbk]; rfl
  have c1 : w1.cell? ⟨b, 1, none⟩ = some v := by rw [Lib.cell_of_heap hbk]; rfl
  go_wp2_with (at_builtin; refine Lib.wpList_append_own_string _ rfl _ _ 95 9 rfl B 5 i0 Tryd.underlying95 Tryd.underlying9 hi hz0 hz1 hz2 _ _ _ rfl hown s rfl ?c3 ?c4 ?c5 ?_)
  case c3 => unfold maxLen; omega
  case c4 => omega
  case c5 => have := hb1.size; omega
  intro v' w2 hown' hgrow _
  have hlt : b < w1.heap.size := by
    rcases Nat.lt_or_ge b w1.heap.size with h' | h'
    · exact h'
    · simp [Array.getElem?_eq_none h'] at hbk
  have hb2 : w2.heap[b]? = some (.cells #[.pointer (some ⟨b, 0, none⟩), v] 97 (0, 0)) := by
    rw [hgrow.block b hlt (fun e => hne e.symm)]
    exact hbk
  have d0 : w2.cell? ⟨b, 0, none⟩ = some (.pointer (some ⟨b, 0, none⟩)) := by rw [Lib.cell_of_heap hb2]; rfl
  have d1 : w2.cell? ⟨b, 1, none⟩ = some v := by rw [Lib.cell_of_heap hb2]; rfl
  have f1 : w2.frozen? ⟨b, 1, none⟩ = false := Lib.frozen_of_heap hb2 1
  obtain ⟨ao, n', cap, rfl⟩ : ∃ ao n' cap, v' = .slice ao n' cap := by
    rcases hown'.2 with ⟨hv, _⟩ | ⟨g, cap, cur, hv, _⟩
    · exact ⟨_, _, _, hv⟩
    · exact ⟨_, _, _, hv⟩
  go_wp2
  go_ret2
  refine ⟨rfl, ?_, ?_⟩
  · exact Lib.BuilderAt.put (T := 97) (e := 5) hB hb2 (bs' := bs ++ Lib.strCells s) (by simpa [Lib.strCells_length] using hown') (by decide)
  · exact (hb1.grown hgrow (by have := hb1.size; omega) (fun k hk => (hown.lt k hk).1)).setCell (p := ⟨b, 1, none⟩) hB _

set_option maxHeartbeats 1000000 in
set_option maxRecDepth 100000 in
theorem string_some (B b : Nat) (l : List UInt8) (w : World) (h : IsBuilder B b (Lib.byteCells l) w) (h0 : l ≠ []) :
    Calls Tryd.prog 76 #[.pointer (some ⟨b, 0, none⟩)] w fun e w' => e = .returned (.string ⟨l.toArray⟩) ∧ Below B w w' := by
  obtain ⟨p, hB, v, hbk, hown, hne⟩ : ∃ p, BuilderAt B b p (Lib.byteCells l) w := by
    rcases h with h | h
    · exact ⟨_, h⟩
    · exact ⟨_, h⟩
  have hl0 : l.length ≠ 0 := by simpa using h0
  rw [Lib.byteCells_length] at hown
  obtain ⟨g, cap, cur, rfl, hbg, hg, hnc, hcm, hcs, htake⟩ : ∃ g cap cur, v = .slice (some ⟨g, 0, none⟩) l.length cap ∧ B ≤ g ∧ w.heap[g]? = some (.cells cur 5 (0, 0)) ∧ l.length ≤ cap ∧ cap ≤ maxLen ∧ cur.size = cap * 1 ∧ cur.toList.take (l.length * 1) = Lib.byteCells l := by
    rcases hown.2 with ⟨_, hz⟩ | ⟨g, cap, cur, hv, r⟩
    · exact absurd hz hl0
    · exact ⟨g, cap, cur, hv, r⟩
  have c1 : w.drew.cell? ⟨b, 1, none⟩ = some (.slice (some ⟨g, 0, none⟩) l.length cap) := by
    have : w.drew.heap[b]? = some (.cells #[p, .slice (some ⟨g, 0, none⟩) l.length cap] 97 (0, 0)) := hbk
    rw [Lib.cell_of_heap this]; rfl
  have hSD : (Builtin.unsafeSliceData_ #[95] 110 #[.slice (some ⟨g, 0, none⟩) l.length cap]).run Tryd.prog w.drew = .ok (.pointer (some ⟨g, 0, none⟩)) w.drew :=
    Lib.run_unsafeSliceData_row _ _ _ _ _ _ (by omega)
  have hUS : (Builtin.unsafeString_ #[110, 3] 9 #[.pointer (some ⟨g, 0, none⟩), .int .i64 l.length]).run Tryd.prog w.drew = .ok (.string ⟨l.toArray⟩) (w.drew.freeze ⟨g, 0, none⟩ l.length) := by
    refine Lib.run_unsafeString_row w.drew 110 3 9 5 Tryd.underlying110 (by kernel_rfl) g cur.size (by have hg' : w.drew.heap[g]? = some (.cells cur 5 (0, 0)) := hg; simp [World.shape?, hg']) l h0 (by omega) (by unfold maxLen at hcm; omega) ?_
    intro j x hx
    have := hown.cells (g := g) rfl j (.int .u8 x.toNat) (by simp [Lib.byteCells, hx])
    exact this
  go_enter Tryd.func76, Tryd.ntmps76
  go_wp2
  go_region
  all_goals (go_wp2; go_ret; exact ⟨rfl, Lib.below_freeze (Below.drew (Below.refl B w)) (p := ⟨g, 0, none⟩) hbg _⟩)

theorem unsafeString_none (W : World) (q : Option Addr) : (Builtin.unsafeString_ #[110, 3] 9 #[.pointer q, .int .i64 0]).run Tryd.prog W = .ok (.string .empty) W :=
  Lib.run_unsafeString_none W _ _ _ q

set_option maxHeartbeats 2000000 in
set_option maxRecDepth 100000 in
theorem string_nil (B b : Nat) (p : Value) (w : World) (hbk : w.heap[b]? = some (.cells #[p, .slice none 0 0] 97 (0, 0))) :
    Calls Tryd.prog 76 #[.pointer (some ⟨b, 0, none⟩)] w fun e w' => e = .returned (.string ⟨#[]⟩) ∧ Below B w w' := by
  have hUS := unsafeString_none
  have c1 : w.drew.cell? ⟨b, 1, none⟩ = some (.slice none 0 0) := by
    have : w.drew.heap[b]? = some (.cells #[p, .slice none 0 0] 97 (0, 0)) := hbk
    rw [Lib.cell_of_heap this]; rfl
  have hSD : (Builtin.unsafeSliceData_ #[95] 110 #[.slice none 0 0]).run Tryd.prog w.drew = .ok (.pointer none) w.drew := rfl
  go_enter Tryd.func76, Tryd.ntmps76
  go_wp2
  go_region
  all_goals (go_wp2; go_ret; exact ⟨rfl, Below.drew (Below.refl B w)⟩)

set_option maxHeartbeats 2000000 in
set_option maxRecDepth 100000 in
theorem string_noroom (B b g : Nat) (p : Value) (cur : Array Value) (w : World) (hBw : B ≤ w.heap.size) (hbk : w.heap[b]? = some (.cells #[p, .slice (some ⟨g, 0, none⟩) 0 0] 97 (0, 0))) (hg : w.heap[g]? = some (.cells cur 5 (0, 0))) :
    Calls Tryd.prog 76 #[.pointer (some ⟨b, 0, none⟩)] w fun e w' => e = .returned (.string ⟨#[]⟩) ∧ Below B w w' := by
  have hUS := unsafeString_none
  have hlt : b < w.heap.size := by
    rcases Nat.lt_or_ge b w.heap.size with h' | h'
    · exact h'
    · simp [Array.getElem?_eq_none h'] at hbk
  have c1 : w.drew.cell? ⟨b, 1, none⟩ = some (.slice (some ⟨g, 0, none⟩) 0 0) := by
    have : w.drew.heap[b]? = some (.cells #[p, .slice (some ⟨g, 0, none⟩) 0 0] 97 (0, 0)) := hbk
    rw [Lib.cell_of_heap this]; rfl
  have hSD : (Builtin.unsafeSliceData_ #[95] 110 #[.slice (some ⟨g, 0, none⟩) 0 0]).run Tryd.prog w.drew = .ok (.pointer (some ⟨w.drew.heap.size, 0, none⟩)) (w.drew.alloc (.view ⟨g, 0, none⟩ 5)) :=
    Lib.run_unsafeSliceData_zero w.drew _ _ 5 Tryd.underlying110 ⟨g, 0, none⟩ 0 (5, cur.size) (by have hg' : w.drew.heap[g]? = some (.cells cur 5 (0, 0)) := hg; simp [World.shape?, hg'])
  have c2 : (w.drew.alloc (.view ⟨g, 0, none⟩ 5)).cell? ⟨b, 1, none⟩ = some (.slice (some ⟨g, 0, none⟩) 0 0) := by
    have : (w.drew.alloc (.view ⟨g, 0, none⟩ 5)).heap[b]? = _ := (Lib.alloc_old w.drew _ b hlt).trans hbk
    rw [Lib.cell_of_heap this]; rfl
  have c3 : (w.alloc (.view ⟨g, 0, none⟩ 5)).drew.cell? ⟨b, 1, none⟩ = some (.slice (some ⟨g, 0, none⟩) 0 0) := c2
  have c0 : w.cell? ⟨b, 1, none⟩ = some (.slice (some ⟨g, 0, none⟩) 0 0) := c1
  go_enter Tryd.func76, Tryd.ntmps76
  go_wp2
  go_region
  all_goals (go_wp2; go_ret; exact ⟨rfl, (Below.drew (Below.refl B w)).alloc hBw _⟩)

set_option maxHeartbeats 2000000 in
set_option maxRecDepth 100000 in
theorem string_room (B b g cap : Nat) (p : Value) (w : World) (hc0 : cap ≠ 0) (hbk : w.heap[b]? = some (.cells #[p, .slice (some ⟨g, 0, none⟩) 0 cap] 97 (0, 0))) :
    Calls Tryd.prog 76 #[.pointer (some ⟨b, 0, none⟩)] w fun e w' => e = .returned (.string ⟨#[]⟩) ∧ Below B w w' := by
  have hUS := unsafeString_none
  have c1 : w.drew.cell? ⟨b, 1, none⟩ = some (.slice (some ⟨g, 0, none⟩) 0 cap) := by
    have : w.drew.heap[b]? = some (.cells #[p, .slice (some ⟨g, 0, none⟩) 0 cap] 97 (0, 0)) := hbk
    rw [Lib.cell_of_heap this]; rfl
  have hSD : (Builtin.unsafeSliceData_ #[95] 110 #[.slice (some ⟨g, 0, none⟩) 0 cap]).run Tryd.prog w.drew = .ok (.pointer (some ⟨g, 0, none⟩)) w.drew :=
    Lib.run_unsafeSliceData_row _ _ _ _ _ _ hc0
  clear hc0
  go_enter Tryd.func76, Tryd.ntmps76
  go_wp2
  go_region
  all_goals (go_wp2; go_ret; exact ⟨rfl, Below.drew (Below.refl B w)⟩)

theorem string_any (B b : Nat) (l : List UInt8) (w : World) (h : IsBuilder B b (Lib.byteCells l) w) (hBw : B ≤ w.heap.size) :
    Calls Tryd.prog 76 #[.pointer (some ⟨b, 0, none⟩)] w fun e w' => e = .returned (.string ⟨l.toArray⟩) ∧ Below B w w' := by
  cases l with
  | nil =>
    obtain ⟨p, hB, v, hbk, hown, hne⟩ : ∃ p, BuilderAt B b p [] w := by
      rcases h with h | h
      · exact ⟨_, h⟩
      · exact ⟨_, h⟩
    rcases hown.2 with ⟨rfl, _⟩ | ⟨g, cap, cur, rfl, hbg, hg, _, _, _, _⟩
    · exact string_nil B b p w hbk
    · by_cases hc0 : cap = 0
      · subst hc0
        exact string_noroom B b g p cur w hBw hbk hg
      · exact string_room B b g cap p w hc0 hbk
  | cons x r => exact string_some B b (x :: r) w h (by simp)
end Go.Proofs.YthpibilefdmemaaDoor

namespace Go.Proofs.YthpibilefdmemaaDoor
open Go.RowKit

/-- What Text leaves. -/
def TextPost (w : World) (z : Int) (e : Ending) (w' : World) : Prop := e = .returned (.string ⟨(decZ z).toArray⟩) ∧ Below w.heap.size w w'

/-- The builder's text so far. -/
structure TxSt (W1 : World) (l : List UInt8) (wr : World) : Prop where
  bld : IsBuilder W1.heap.size W1.heap.size (Lib.byteCells l) wr
  bel : Below W1.heap.size W1 wr
section
variable {W1 wr w' : World} {l : List UInt8}
theorem isBuilder_below {B b : Nat} {bs : List Value} (h : IsBuilder B b bs wr) (hb : Below wr.heap.size wr w') : IsBuilder B b bs w' := by
  have key : ∀ p, BuilderAt B b p bs wr → BuilderAt B b p bs w' := by
    intro p h
    have hlt := h.lt
    obtain ⟨hB, v, hbk, hown, hne⟩ := h
    exact ⟨hB, v, (hb.block b hlt).trans hbk, hown.kept (row := none) ⟨hb.os, hb.tape, hb.output, hb.size, fun i hi _ => hb.block i hi⟩ (by cases v.ownBlock <;> simp), hne⟩
  rcases h with h | h
  · exact .inl (key _ h)
  · exact .inr (key _ h)
theorem TxSt.grow (s : TxSt W1 l wr) (hb : Below wr.heap.size wr w') : TxSt W1 l w' := ⟨isBuilder_below s.bld hb, s.bel.trans (hb.mono s.bel.size)⟩
theorem TxSt.byte (s : TxSt W1 l wr) {c : UInt8} {z : Int} (hz : z = c.toNat) (h : BuilderAt W1.heap.size W1.heap.size (.pointer (some ⟨W1.heap.size, 0, none⟩)) (Lib.byteCells l ++ [.int .u8 z]) w') (hb : Below W1.heap.size wr w') : TxSt W1 (l ++ [c]) w' := by
  subst hz
  exact ⟨.inr (by rw [Lib.byteCells_append]; exact h), s.bel.trans hb⟩
theorem TxSt.str (s : TxSt W1 l wr) {m : List UInt8} (h : BuilderAt W1.heap.size W1.heap.size (.pointer (some ⟨W1.heap.size, 0, none⟩)) (Lib.byteCells l ++ Lib.strCells ⟨m.toArray⟩) w') (hb : Below W1.heap.size wr w') : TxSt W1 (l ++ m) w' :=
  ⟨.inr (by rw [Lib.byteCells_append]; exact h), s.bel.trans hb⟩
theorem writeByte_tx (s : TxSt W1 l wr) (c : UInt8) (z : Int) (hz : z = c.toNat) (hl : l.length + 1 ≤ 140737488355328) :
    Calls Tryd.prog 73 #[.pointer (some ⟨W1.heap.size, 0, none⟩), .int .u8 z] wr fun e w' => e = .returned .nilIface ∧ TxSt W1 (l ++ [c]) w' := by
  refine (writeByte_any W1.heap.size W1.heap.size (Lib.byteCells l) z wr s.bld (by rw [Lib.byteCells_length]; exact hl) s.bel.size).mono ?_
  rintro e w' ⟨rfl, h, hb⟩
  exact ⟨rfl, s.byte hz h hb⟩
theorem writeString_tx (s : TxSt W1 l wr) (m : List UInt8) (hl : l.length + m.length ≤ 140737488355328) :
    Calls Tryd.prog 74 #[.pointer (some ⟨W1.heap.size, 0, none⟩), .string ⟨m.toArray⟩] wr fun e w' => (∃ n : Nat, e = .returned (.tuple #[.int .i64 n, .nilIface])) ∧ TxSt W1 (l ++ m) w' := by
  refine (writeString_any W1.heap.size W1.heap.size (Lib.byteCells l) ⟨m.toArray⟩ wr s.bld (by rw [Lib.byteCells_length]; exact hl) s.bel.size).mono ?_
  rintro e w' ⟨rfl, h, hb⟩
  exact ⟨⟨_, rfl⟩, s.str h hb⟩
end
theorem Tab.atBelow {w w' : World} {B : Nat} (h : Tab w) (hb : Below B w w') (hB : w.heap.size ≤ B) : Tab w' := h.below (hb.mono hB)
theorem txt_all {ds : List Nat} : txt ds 0 = Lib.decDigits (val BB ds) := by simp [txt]

set_option maxRecDepth 100000 in
set_option maxHeartbeats 3200000 in
theorem Text_any {x : Int} {u : Value} (w : World) (hx : IntV w u x) (hn : Sm x) (ht : Tab w) :
    Calls Tryd.prog 35 #[u] w (TextPost w x) := by
  generalize hP : TextPost w x = Post
  have HP := hide hP
  clear hP
  obtain ⟨a, ca, rfl, ha, hda⟩ := id hx
  have HX0 := hx
  clear hx
  have hX0 : Blk (w.alloc (.cells #[.bool (decide (x < 0)), .slice a (dg BB x.natAbs).length ca] 24)) w.heap.size 24 #[.bool (decide (x < 0)), .slice a (dg BB x.natAbs).length ca] := Blk.new w _ _
  have hB0 : Below w.heap.size w (w.alloc (.cells #[.bool (decide (x < 0)), .slice a (dg BB x.natAbs).length ca] 24)) := (Below.refl _ _).alloc (Nat.le_refl _) _
  go_enter Tryd.func35, Tryd.ntmps35
  go_wp2_with fail
  generalize w.alloc (.cells #[.bool (decide (x < 0)), .slice a (dg BB x.natAbs).length ca] 24) = W at hX0 hB0 ⊢
  have cxn := dg_canon BB2 x.natAbs
  have hsx : (dg BB x.natAbs).length ≤ 1099511627776 := hn
  have HV : Hid (val BB (dg BB x.natAbs) = x.natAbs) := hide (dg_val BB2 _)
  have HNX : Hid (decZ x = (if decide (x < 0) = true then [45] else []) ++ Lib.decDigits x.natAbs) := hide (by simp [decZ])
  refine (right_at HX0 hn hB0).mono ?_
  rintro e w1 ⟨rfl, hb1⟩
  have hX1 := hX0.below hb1 hX0.lt
  have hB1 : Below w.heap.size w w1 := hB0.trans (hb1.mono hB0.size)
  clear hX0 hB0 hb1
  generalize decide (x < 0) = nx at *
  generalize dg BB x.natAbs = dx at *
  have hX2 := hX1.two (.bool nx) (.slice a dx.length ca)
  have hB2 := (hB1.setCell (p := ⟨w.heap.size, 0, none⟩) (Nat.le_refl _) (.bool nx)).setCell (p := ⟨w.heap.size, 1, none⟩) (Nat.le_refl _) (.slice a dx.length ca)
  obtain ⟨c0, c1, cf⟩ := hX1.c2
  have hl1 := hX1.lt
  go_upto_region 2 with (fail)
  generalize (w1.setCell _ _).setCell _ _ = W1 at hX2 hB2 ⊢
  clear c0 c1 cf hX1 hB1 hl1
  obtain ⟨c0, c1, cf⟩ := hX2.c2
  have hda1 := hda.below hB2 (Nat.le_refl _)
  by_cases h0 : dx = []
  · subst h0
    simp only [List.length_nil] at c1 ⊢
    go_wp2_with fail
    rw [← HP.out]
    refine ⟨?_, hB2⟩
    have hz : x.natAbs = 0 := HV.out.symm
    have hx0 : x = 0 := by omega
    subst hx0
    rw [show decZ 0 = [48] by simp [decZ, Lib.decDigits_one (show 0 < 10 by decide)]]
    rfl
  · have hl0 : 0 < dx.length := List.length_pos_iff.2 h0
    have e0 : ((dx.length : Int) == 0) = false := by simp; omega
    have hX3 := hX2.alloc (.cells #[.pointer none, .slice none 0 0] 97)
    have hN3 := Blk.new W1 97 #[.pointer none, .slice none 0 0]
    have hB3 := (Below.refl W1.heap.size W1).alloc (Nat.le_refl _) (.cells #[.pointer none, .slice none 0 0] 97)
    have ht1 : Tab W1 := ht.atBelow hB2 (Nat.le_refl _)
    have s0 : TxSt W1 [] (W1.alloc (.cells #[.pointer none, .slice none 0 0] 97)) := ⟨Lib.fresh_isBuilder _ _ _, hB3⟩
    have c0' := (s0.bel.cell (p := ⟨w.heap.size, 0, none⟩) hX2.lt).trans c0
    obtain ⟨d0, d1, df⟩ := hX3.c2
    clear hN3
    go_upto_if 15 with (fail)
    generalize W1.alloc (.cells #[.pointer none, .slice none 0 0] 97) = W2 at hX3 hB3 s0 c0' d0 d1 df ⊢
    clear c0 c1 cf
    go_cut [] from 16 to 17 (fun wc => TxSt W1 (if nx = true then [45] else []) wc)
    case first =>
      cases nx with
      | true =>
        go_wp2_with fail
        refine (writeByte_tx s0 45 _ rfl (by decide)).mono ?_
        rintro e w3 ⟨rfl, s1⟩
        go_wp2_with fail
        go_meet
        exact s1
      | false =>
        go_wp2_with fail
        go_meet
        exact s0
    case rest =>
      have s1 : TxSt W1 (if nx = true then [45] else []) _ := hcut
      clear s0 c0' d0 d1 df hX3 hB3
      generalize hpre : (if nx = true then [45] else [] : List UInt8) = pre at s1
      have hpl : pre.length ≤ 1 := by rw [← hpre]; split <;> simp
      have HPRE := hide hpre
      clear hpre hcut
      obtain ⟨last, hlast⟩ : ∃ last, last + 1 = dx.length := ⟨dx.length - 1, by omega⟩
      obtain ⟨d0, d1, df⟩ := (hX2.below s1.bel hX2.lt).c2
      obtain ⟨ab, ao, rfl, hcl, hab⟩ := (hda1.below s1.bel (Nat.le_refl _)).at (i := last) (by omega)
      have i0 : ((dx.length : Int) - 1) = (last : Int) := by omega
      have hil : last < dx.length := by omega
      have hd9 : dx[last] < BB := cxn.1.at hil
      have hd64 : dx[last] < 18446744073709551616 := by have := hd9; rw [BB_eq] at this; omega
      have hnd := nDigits9 hd9
      have HTX := hide (txt_last hlast)
      clear hd9
      have HD := hide hd64
      generalize hdl : dx[last] = dl at *
      have HDL := hide hdl
      clear hdl hd64
      have hiu : IntKind.u64.wrap (dl : Int) = (dl : Int) := IntWalk.u64_in _ (by have := HD.out; omega)
      go_wp2_with fail
      refine (Fmt_any dl HD.out wc (ht1.atBelow s1.bel (Nat.le_refl _))).mono ?_
      rintro e w4 ⟨rfl, hb4⟩
      have s2 := s1.grow hb4
      clear d0 d1 df hcl
      go_wp2_with fail
      refine (writeString_tx s2 (Lib.decDigits dl) (by rw [Lib.decDigits_length]; omega)).mono ?_
      rintro e w5 ⟨⟨nn, rfl⟩, s3⟩
      rw [← HTX.out] at s3
      have hl3 : (pre ++ txt dx last).length ≤ 1 + 9 * (dx.length - last) := by rw [HTX.out, List.length_append, Lib.decDigits_length]; omega
      clear s1 s2 hb4
      go_wp2_with fail
      clear HTX HDL HD hiu hnd i0
      go_loopg [5] last (fun r v wr => v = .int .i64 ((r : Int) - 1) ∧ r < dx.length ∧ (pre ++ txt dx r).length ≤ 1 + 9 * (dx.length - r) ∧ TxSt W1 (pre ++ txt dx r) wr)
      case atStart => exact ⟨rfl, hil, hl3, s3⟩
      case round =>
        obtain ⟨rfl, hr, hlr, s⟩ := hrel
        clear s3 hl3
        cases gk with
        | zero =>
          go_wp2_with fail
          refine (string_any W1.heap.size W1.heap.size _ wr s.bld s.bel.size).mono ?_
          rintro e w6 ⟨rfl, hb6⟩
          go_wp2_with fail
          rw [← HP.out]
          refine ⟨?_, hB2.trans ((s.bel.trans hb6).mono hB2.size)⟩
          rw [HNX.out, HPRE.out, txt_all, HV.out]
          rfl
        | succ j =>
          have hj : j < dx.length := by omega
          obtain ⟨d0, d1, df⟩ := (hX2.below s.bel hX2.lt).c2
          obtain ⟨ab', ao', he, hcl, -⟩ := (hda1.below s.bel (Nat.le_refl _)).at hj
          obtain ⟨rfl, rfl⟩ : ab = ab' ∧ ao = ao' := by injection he with he; injection he with h1 h2; exact ⟨h1, h2⟩
          clear he
          have hd9 : dx[j] < BB := cxn.1.at hj
          have hd64 : dx[j] < 18446744073709551616 := by have := hd9; rw [BB_eq] at this; omega
          have hnd := nDigits9 hd9
          have HTX := hide (txt_step cxn hr)
          clear hd9
          have HD := hide hd64
          generalize hdl : dx[j] = dl at *
          have HDL := hide hdl
          clear hdl hd64
          have hiu : IntKind.u64.wrap (dl : Int) = (dl : Int) := IntWalk.u64_in _ (by have := HD.out; omega)
          have hj0 : ((j + 1 : Nat) : Int) - 1 = (j : Int) := by omega
          simp only [hj0]
          clear hj0
          go_wp2_with fail
          refine (Fmt_any dl HD.out wr (ht1.atBelow s.bel (Nat.le_refl _))).mono ?_
          rintro e w4 ⟨rfl, hb4⟩
          have s2 := s.grow hb4
          have hdl := Lib.decDigits_length dl
          clear d0 d1 df hcl s
          go_wp2_with fail
          go_loopg [7] (9 - Lib.nDigits dl) (fun r v wi => ∃ m, m + r = 9 - Lib.nDigits dl ∧ v = .int .i64 ((Lib.nDigits dl + m : Nat) : Int) ∧ TxSt W1 ((pre ++ txt dx (j + 1)) ++ List.replicate m 48) wi)
          case atStart => exact ⟨0, by omega, by simp, by simpa using s2⟩
          case round =>
            obtain ⟨m, hm, rfl, si⟩ := hrel
            clear s2
            rcases Nat.eq_zero_or_pos gk with h9 | h9
            · subst h9
              have e9 : Lib.nDigits dl + m = 9 := by omega
              have em : m = 9 - Lib.nDigits dl := by omega
              rw [e9]
              clear hm e9
              have hl5 : ((pre ++ txt dx (j + 1)) ++ List.replicate m 48).length + (Lib.decDigits dl).length ≤ 140737488355328 := by rw [List.length_append, List.length_replicate, Lib.decDigits_length]; omega
              have hl6 : (pre ++ txt dx j).length ≤ 1 + 9 * (dx.length - j) := by
                rw [HTX.out]; simp only [List.length_append, List.length_replicate, Lib.decDigits_length] at hlr ⊢; omega
              have HEM := hide em
              clear em
              go_wp2_with fail
              refine (writeString_tx si (Lib.decDigits dl) hl5).mono ?_
              rintro e w6 ⟨⟨n2, rfl⟩, s6⟩
              have s7 : TxSt W1 (pre ++ txt dx j) w6 := by rw [HTX.out, ← HEM.out]; simpa using s6
              clear s6 si hl5
              go_wp2_with fail
              go_roundg j
              case measure => omega
              case rel => exact ⟨rfl, hj, hl6, s7⟩
            · have e9 : decide (((Lib.nDigits dl + m : Nat) : Int) < 9) = true := by simp; omega
              have e10 : ((Lib.nDigits dl + m : Nat) : Int) < 9 := by omega
              have hl5 : ((pre ++ txt dx (j + 1)) ++ List.replicate m 48).length + 1 ≤ 140737488355328 := by rw [List.length_append, List.length_replicate]; omega
              have e11 : ((Lib.nDigits dl + m : Nat) : Int) + 1 = ((Lib.nDigits dl + (m + 1) : Nat) : Int) := by omega
              have hrep : List.replicate m (48 : UInt8) ++ [48] = List.replicate (m + 1) 48 := by rw [List.replicate_succ']
              have HREP := hide hrep
              clear hrep
              have hm1 : m + 1 + (gk - 1) = 9 - Lib.nDigits dl := by omega
              have HM := hide hm
              have HM1 := hide hm1
              clear hm hm1
              generalize hnm : ((Lib.nDigits dl + m : Nat) : Int) = nm at *
              have HNM := hide hnm
              clear hnm
              go_wp2_with fail
              refine (writeByte_tx si 48 _ rfl hl5).mono ?_
              rintro e w6 ⟨rfl, s6⟩
              rw [List.append_assoc, HREP.out] at s6
              clear si hl5
              go_wp2_with fail
              go_roundg (gk - 1)
              case measure => omega
              case rel => exact ⟨m + 1, HM1.out, rfl, s6⟩
end Go.Proofs.YthpibilefdmemaaDoor

namespace Go.Proofs.YthpibilefdmemaaDoor
open Go.RowKit

theorem sm_small {z : Int} (h : z.natAbs < BB ^ 10) : Sm z := by
  have := dg_len BB2 h
  unfold Sm len; omega

set_option maxRecDepth 100000 in
set_option maxHeartbeats 1600000 in
theorem speaks_any (w : World) (ht : Tab w) : Calls Tryd.prog 11 #[] w fun e w' => e = .returned (.bool true) ∧ Below w.heap.size w w' := by
  go_enter Tryd.func11, Tryd.ntmps11
  go_wp2_with fail
  refine (Of_any (-7) w (by decide) (by decide)).mono ?_
  rintro e w1 ⟨p, rfl, hp, hb1⟩
  go_wp2_with fail
  refine (Of_any 2 w1 (by decide) (by decide)).mono ?_
  rintro e w2 ⟨q, rfl, hq, hb2⟩
  have hp2 := hp.below hb2 (Nat.le_refl _)
  go_wp2_with fail
  refine (Div_any w2 hp2 hq (sm_small (by decide)) (sm_small (by decide))).mono ?_
  rintro e w3 ⟨Q, R, rfl, hQ, hR, hb3⟩
  rw [show (if (2 : Int) = 0 then 0 else -7 / 2) = -4 by decide] at hQ
  rw [show (if (2 : Int) = 0 then 0 else -7 % 2) = 1 by decide] at hR
  obtain ⟨qn, qa, ql, qc, rfl⟩ := hQ.parts
  obtain ⟨rn, ra, rl, rc, rfl⟩ := hR.parts
  have hB3 : Below w.heap.size w w3 := (hb1.trans (hb2.mono hb1.size)).trans (hb3.mono (Nat.le_trans hb1.size hb2.size))
  have ht3 := ht.atBelow hB3 (Nat.le_refl _)
  clear hp hq hp2 hb1 hb2 hb3
  obtain ⟨w5, h5⟩ : ∃ w5, (w3.alloc (.cells #[.bool false, .slice none 0 0] 24)).alloc (.cells #[.bool false, .slice none 0 0] 24) = w5 := ⟨_, rfl⟩
  have hA : Blk w5 w3.heap.size 24 #[.bool false, .slice none 0 0] := by rw [← h5]; exact (Blk.new w3 _ _).alloc _
  have hE : Blk w5 (w3.heap.size + 1) 24 #[.bool false, .slice none 0 0] := by rw [← h5]; exact Blk.new_at _ _ _ (by simp)
  have hb5 : Below w3.heap.size w3 w5 := by rw [← h5]; exact ((Below.refl _ _).alloc (Nat.le_refl _) _).alloc (by simp) _
  obtain ⟨a0, a1, af⟩ := hA.c2
  obtain ⟨e0, e1, ef⟩ := hE.c2
  have hA2 := ((hA.two (.bool qn) (.slice qa ql qc)).far (p := ⟨w3.heap.size + 1, 0, none⟩) (by simp) (.bool rn)).far (p := ⟨w3.heap.size + 1, 1, none⟩) (by simp) (.slice ra rl rc)
  have hE2 := (((hE.far (p := ⟨w3.heap.size, 0, none⟩) (by simp) (.bool qn)).far (p := ⟨w3.heap.size, 1, none⟩) (by simp) (.slice qa ql qc))).two (.bool rn) (.slice ra rl rc)
  have hb7 : Below w3.heap.size w3 ((((w5.setCell ⟨w3.heap.size, 0, none⟩ (.bool qn)).setCell ⟨w3.heap.size, 1, none⟩ (.slice qa ql qc)).setCell ⟨w3.heap.size + 1, 0, none⟩ (.bool rn)).setCell ⟨w3.heap.size + 1, 1, none⟩ (.slice ra rl rc)) := (((hb5.setCell (Nat.le_refl _) _).setCell (Nat.le_refl _) _).setCell (by simp) _).setCell (by simp) _
  clear hb5
  go_upto_region 2 with (fail)
  generalize (((w5.setCell ⟨w3.heap.size, 0, none⟩ (.bool qn)).setCell ⟨w3.heap.size, 1, none⟩ (.slice qa ql qc)).setCell ⟨w3.heap.size + 1, 0, none⟩ (.bool rn)).setCell ⟨w3.heap.size + 1, 1, none⟩ (.slice ra rl rc) = w7 at hA2 hE2 hb7 ⊢
  clear a0 a1 af e0 e1 ef hA hE h5
  obtain ⟨a0, a1, af⟩ := hA2.c2
  go_wp2_with fail
  refine (Text_any w7 (hQ.below hb7 (Nat.le_refl _)) (sm_small (by decide)) (ht3.atBelow hb7 (Nat.le_refl _))).mono ?_
  rintro e w8 ⟨rfl, hb8⟩
  rw [show decZ (-4) = [45, 52] by simp [decZ, Lib.decDigits_one (show 4 < 10 by decide)]]
  clear a0 a1 af
  obtain ⟨e0, e1, ef⟩ := (hE2.below hb8 hE2.lt).c2
  go_wp2_with fail
  refine (Text_any w8 ((hR.below hb7 (Nat.le_refl _)).below hb8 (Nat.le_refl _)) (sm_small (by decide)) ((ht3.atBelow hb7 (Nat.le_refl _)).atBelow hb8 (Nat.le_refl _))).mono ?_
  rintro e w9 ⟨rfl, hb9⟩
  rw [show decZ 1 = [49] by simp [decZ, Lib.decDigits_one (show 1 < 10 by decide)]]
  go_wp2_with fail
  go_ret
  exact ⟨rfl, hB3.trans ((hb7.trans ((hb8.trans (hb9.mono hb8.size)).mono hb7.size)).mono hB3.size)⟩

/-- An integer as it came in. -/
structure Raw where
  neg : Bool
  at_ : Option Addr
  cap : Nat
  ds : List Nat
def Raw.odd (r : Raw) : Bool := decide (10 < r.ds.length) || !rightB r.neg r.ds
/-- A row of integers. -/
def RawRow (w : World) (g : Nat) (l : List Raw) : Prop := ∀ (i : Nat) (h : i < l.length), w.cell? ⟨g, i * 2, none⟩ = some (.bool l[i].neg) ∧ w.cell? ⟨g, i * 2 + 1, none⟩ = some (.slice l[i].at_ l[i].ds.length l[i].cap) ∧ Dg .u32 w l[i].at_ l[i].ds ∧ l[i].ds.length ≤ 9223372036854775807

set_option maxRecDepth 100000 in
set_option maxHeartbeats 1600000 in
theorem Odd_any (g : Nat) (l : List Raw) (w : World) (h : RawRow w g l) (hl : l.length ≤ 1000) :
    Calls Tryd.prog 21 #[.slice (some ⟨g, 0, none⟩) l.length l.length] w fun e w' => e = .returned (.bool (l.any Raw.odd)) ∧ Below w.heap.size w w' := by
  generalize hr : l.any Raw.odd = r
  have HR := hide hr
  clear hr
  go_enter Tryd.func21, Tryd.ntmps21
  go_wp2_with fail
  go_loopg [7] l.length (fun k v wr => ∃ j : Nat, j + k = l.length ∧ v = .int .i64 (j : Int) ∧ Hid ((l.take j).any Raw.odd = false) ∧ Below w.heap.size w wr)
  case atStart => exact ⟨0, by omega, rfl, hide (by simp), Below.refl _ _⟩
  case round =>
    obtain ⟨j, hjk, rfl, HT, hB⟩ := hrel
    rcases Nat.eq_zero_or_pos gk with h0 | h0
    · subst h0
      obtain rfl : j = l.length := by omega
      have HV : Hid (l.any Raw.odd = false) := hide (by have h := HT.out; rwa [List.take_length] at h)
      go_wp2_with fail
      go_ret
      exact ⟨by rw [← HR.out, HV.out]; rfl, hB⟩
    · have hj : j < l.length := by omega
      obtain ⟨k0, k1, hd, hlen⟩ := h j hj
      have HM : Hid (l[j].odd = true → l.any Raw.odd = true) := hide (fun h => List.any_eq_true.2 ⟨_, List.getElem_mem hj, h⟩)
      have HN : Hid (l[j].odd = false → (l.take (j + 1)).any Raw.odd = false) := hide (fun h => by rw [List.take_succ_eq_append_getElem hj, List.any_append, HT.out]; simp [h])
      generalize l[j] = R at *
      obtain ⟨n, a, cap, ds⟩ := R
      simp only at k0 k1 hd hlen
      have b0 := (hB.cell (World.block_lt_of_cell? w _ k0)).trans k0
      have b1 := (hB.cell (World.block_lt_of_cell? w _ k1)).trans k1
      have hd1 := hd.below hB (Nat.le_refl _)
      have hX2 := Blk.new wr 24 #[.bool n, .slice a ds.length cap]
      have hb2 : Below wr.heap.size wr ((wr.alloc (.cells #[.bool n, .slice a ds.length cap] 24))) := (Below.refl _ _).alloc (Nat.le_refl _) _
      go_upto_region 4 with (fail)
      generalize wr.alloc (.cells #[.bool n, .slice a ds.length cap] 24) = W at hX2 hb2 ⊢
      have hd2 := hd1.below hb2 (Nat.le_refl _)
      clear b0 b1
      obtain ⟨x0, x1, xf⟩ := hX2.c2
      have hBW : Below w.heap.size w W := hB.trans (hb2.mono hB.size)
      cases hbig : decide (10 < ds.length) with
      | true =>
        have e1 : decide ((10 : Int) < (ds.length : Int)) = true := by simp at hbig ⊢; omega
        have e2 : (10 : Int) < (ds.length : Int) := by simpa using e1
        have HV := hide (HM.out (by simp [Raw.odd, hbig]))
        clear hbig
        go_wp2_with fail
        go_ret
        exact ⟨by rw [← HR.out, HV.out]; rfl, hBW⟩
      | false =>
        have e1 : decide ((10 : Int) < (ds.length : Int)) = false := by simp at hbig ⊢; omega
        have e2 : ¬ (10 : Int) < (ds.length : Int) := by simpa using e1
        have HB := hide hbig
        clear hbig
        go_wp2_with fail
        refine (RRight_any n a cap ds W hd2 hlen).mono ?_
        rintro e w2 ⟨rfl, hb3⟩
        have hBW2 : Below w.heap.size w w2 := hBW.trans (hb3.mono hBW.size)
        cases hrt : rightB n ds with
        | true =>
          have HV := hide (HN.out (by simp [Raw.odd, HB.out, hrt]))
          clear hrt
          go_wp2_with fail
          go_roundg (gk - 1)
          case measure => omega
          case rel => exact ⟨j + 1, by omega, by go_num, HV, hBW2⟩
        | false =>
          have HV := hide (HM.out (by simp [Raw.odd, hrt]))
          clear hrt
          go_wp2_with fail
          go_ret
          exact ⟨by rw [← HR.out, HV.out]; rfl, hBW2⟩
end Go.Proofs.YthpibilefdmemaaDoor

namespace Go.Proofs.YthpibilefdmemaaDoor
open Go.RowKit

/-- What Small leaves. -/
def SmallPost (w : World) (x : Int) (e : Ending) (w' : World) : Prop :=
  e = .returned (.tuple #[.int .i64 (if x.natAbs ≤ 4611686018427387904 then x else 0), .bool (decide (x.natAbs ≤ 4611686018427387904))]) ∧ Below w.heap.size w w'

theorem val_drop {b : Nat} {ds : List Nat} {j : Nat} (hj : j < ds.length) : val b (ds.drop j) = ds[j] + b * val b (ds.drop (j + 1)) := by
  rw [List.drop_eq_getElem_cons hj]; rfl
theorem val_drop_le {b : Nat} (hb : 0 < b) (ds : List Nat) (j : Nat) : val b (ds.drop j) ≤ val b ds := by
  induction ds generalizing j with
  | nil => simp
  | cons d r ih =>
    cases j with
    | zero => simp
    | succ j =>
      have h1 := ih j
      have h2 : val b r ≤ b * val b r := Nat.le_mul_of_pos_left _ hb
      simp only [List.drop_succ_cons]
      show _ ≤ d + b * val b r
      omega

set_option maxRecDepth 100000 in
set_option maxHeartbeats 1600000 in
theorem Small_any {x : Int} {u : Value} (w : World) (hx : IntV w u x) (hn : Sm x) :
    Calls Tryd.prog 20 #[u] w (SmallPost w x) := by
  generalize hP : SmallPost w x = Post
  have HP := hide hP
  clear hP
  obtain ⟨a, ca, rfl, ha, hda⟩ := id hx
  have HX0 := hx
  clear hx
  have hX0 : Blk (w.alloc (.cells #[.bool (decide (x < 0)), .slice a (dg BB x.natAbs).length ca] 24)) w.heap.size 24 #[.bool (decide (x < 0)), .slice a (dg BB x.natAbs).length ca] := Blk.new w _ _
  have hB0 : Below w.heap.size w (w.alloc (.cells #[.bool (decide (x < 0)), .slice a (dg BB x.natAbs).length ca] 24)) := (Below.refl _ _).alloc (Nat.le_refl _) _
  go_enter Tryd.func20, Tryd.ntmps20
  go_wp2_with fail
  generalize w.alloc (.cells #[.bool (decide (x < 0)), .slice a (dg BB x.natAbs).length ca] 24) = W at hX0 hB0 ⊢
  have cxn := dg_canon BB2 x.natAbs
  have dxn : Digs BB (dg BB x.natAbs) := cxn.1
  have hsx : (dg BB x.natAbs).length ≤ 1099511627776 := hn
  have HV : Hid (val BB (dg BB x.natAbs) = x.natAbs) := hide (dg_val BB2 _)
  have HNX : Hid (x = signZ (decide (x < 0)) x.natAbs) := hide (by
    by_cases h0 : x < 0
    · simp [signZ, h0]; omega
    · simp [signZ, h0]; omega)
  refine (right_at HX0 hn hB0).mono ?_
  rintro e w1 ⟨rfl, hb1⟩
  have hX1 := hX0.below hb1 hX0.lt
  have hB1 : Below w.heap.size w w1 := hB0.trans (hb1.mono hB0.size)
  clear hX0 hB0 hb1
  generalize decide (x < 0) = nx at *
  generalize dg BB x.natAbs = dx at *
  have hX2 := hX1.two (.bool nx) (.slice a dx.length ca)
  have hB2 := (hB1.setCell (p := ⟨w.heap.size, 0, none⟩) (Nat.le_refl _) (.bool nx)).setCell (p := ⟨w.heap.size, 1, none⟩) (Nat.le_refl _) (.slice a dx.length ca)
  obtain ⟨c0, c1, cf⟩ := hX1.c2
  have hl1 := hX1.lt
  go_upto_region 3 with (fail)
  generalize (w1.setCell _ _).setCell _ _ = W1 at hX2 hB2 ⊢
  clear c0 c1 cf hX1 hB1 hl1
  obtain ⟨c0, c1, cf⟩ := hX2.c2
  have hda1 := hda.below hB2 (Nat.le_refl _)
  have hBB := BB_eq
  have big3 : 3 < dx.length → 4611686018427387904 < val BB dx := fun h => by
    have h1 := val_drop (b := BB) (ds := dx) (j := 0) (by omega)
    have h2 := val_drop (b := BB) (ds := dx) (j := 1) (by omega)
    have h3 := val_drop (b := BB) (ds := dx) (j := 2) (by omega)
    have h4 : 0 < val BB (dx.drop (2 + 1)) := by
      refine Canon.pos (by omega) ?_ (by intro h; rw [List.drop_eq_nil_iff] at h; omega)
      refine ⟨dxn.drop _, ?_⟩
      rw [List.getLast?_drop, if_neg (by omega)]
      exact cxn.2
    simp only [List.drop_zero] at h1
    rw [h1, h2, h3]
    generalize val BB (dx.drop (2 + 1)) = V3 at h4
    rw [BB_eq]
    omega
  have v3 : ∀ h : dx.length = 3, val BB dx = dx[0] + 1000000000 * (dx[1] + 1000000000 * dx[2]) := fun h => by
    have h1 := val_drop (b := BB) (ds := dx) (j := 0) (by omega)
    have h2 := val_drop (b := BB) (ds := dx) (j := 1) (by omega)
    have h3 := val_drop (b := BB) (ds := dx) (j := 2) (by omega)
    have h4 : val BB (dx.drop 3) = 0 := by rw [List.drop_of_length_le (by omega)]; rfl
    simp only [List.drop_zero] at h1
    rw [h1, h2, h3, h4, BB_eq, Nat.mul_zero, Nat.add_zero]
  rcases Nat.lt_or_ge 3 dx.length with h3 | h3
  · have hd3 : decide ((3 : Int) < dx.length) = true := by simp; omega
    have hbig := big3 h3
    have HB := hide hbig
    clear big3 v3 hBB hbig
    go_wp2_with fail
    rw [← HP.out]
    have hb := HB.out
    rw [HV.out] at hb
    refine ⟨?_, hB2⟩
    have hb' : ¬ x.natAbs ≤ 4611686018427387904 := by omega
    rw [if_neg hb', decide_eq_false hb']
    rfl
  · have hd3 : decide ((3 : Int) < dx.length) = false := by simp; omega
    by_cases h33 : dx.length = 3
    · have he3 : ((dx.length : Int) == 3) = true := by simp; omega
      have hv3 := v3 h33
      obtain ⟨b1, o1, rfl, hc1, hl1⟩ := hda1.at (i := 2) (by omega)
      have d0 := dxn.at (i := 0) (by omega)
      have d1 := dxn.at (i := 1) (by omega)
      have d2 := dxn.at (i := 2) (by omega)
      rw [BB_eq] at d0 d1 d2
      rcases Nat.lt_or_ge 4 dx[2] with h4 | h4
      · have hd4 : decide (4 < dx[2]) = true := by simp; omega
        have HB := hide (show 4611686018427387904 < val BB dx by rw [hv3]; omega)
        clear big3 v3 hBB hv3 d0 d1
        generalize dx[2] = dd at *
        go_wp2_with fail
        rw [← HP.out]
        have hb := HB.out
        rw [HV.out] at hb
        refine ⟨?_, hB2⟩
        have hb' : ¬ x.natAbs ≤ 4611686018427387904 := by omega
        rw [if_neg hb', decide_eq_false hb']
        rfl
      · have hd4 : decide (4 < dx[2]) = false := by simp; omega
        have HL := hide (show val BB dx < 5000000000000000000 by rw [hv3]; omega)
        clear big3 v3 hBB hv3 d0 d1
        have hc3 := hc1
        have hd5 : decide ((4 : Int) < (dx[2] : Int)) = false := by simp; omega
        have hgt2 : 2 < dx.length := by omega
        clear hc1
        generalize dx[2] = dd at hc3 hd4 hd5 d2 h4
        clear h33
        have s0 : val BB (dx.drop dx.length) = 0 := by simp [val]
        have S0 := hide s0
        clear s0
        go_wp2_with fail
        clear he3 hd4 hd5 hc3
        go_loopg [5, 6] dx.length (fun r v i wr => W1 = wr ∧ ∃ (V : Nat) (iz : Int), v = .int .i64 (V : Int) ∧ i = .int .i64 iz ∧ r ≤ dx.length ∧ Hid (V = val BB (dx.drop r)) ∧ Hid (iz + 1 = (r : Int)))
        case atStart => exact ⟨rfl, 0, _, rfl, rfl, Nat.le_refl _, hide S0.out.symm, hide (by omega)⟩
        case round =>
          obtain ⟨rfl, V, iz, rfl, rfl, hr, HV1, HI⟩ := hrel
          have hVlim : V < 5000000000000000000 := by
            have h1 := HV1.out
            have h2 := val_drop_le (b := BB) (by rw [BB_eq]; decide) dx gk
            have h3 := HL.out
            omega
          rcases Int.lt_or_le iz 0 with h0 | h0
          · obtain rfl : iz = -1 := by have := HI.out; omega
            have hg0 : gk = 0 := by have := HI.out; omega
            have HE : Hid (V = x.natAbs) := hide (by rw [HV1.out, hg0, List.drop_zero, HV.out])
            by_cases hgt : V ≤ 4611686018427387904
            · have hgd : decide ((4611686018427387904 : Int) < (V : Int)) = false := by simp; omega
              cases nx with
              | true =>
                go_wp2_with fail
                rw [← HP.out]
                refine ⟨?_, hB2⟩
                have e1 := HE.out
                have e2 := HNX.out
                rw [← e1, if_pos hgt, decide_eq_true hgt, e2, ← e1]
                simp [signZ]
              | false =>
                go_wp2_with fail
                rw [← HP.out]
                refine ⟨?_, hB2⟩
                have e1 := HE.out
                have e2 := HNX.out
                rw [← e1, if_pos hgt, decide_eq_true hgt, e2, ← e1]
                simp [signZ]
            · have hgd : decide ((4611686018427387904 : Int) < (V : Int)) = true := by simp; omega
              go_wp2_with fail
              rw [← HP.out]
              refine ⟨?_, hB2⟩
              have e1 := HE.out
              rw [← e1, if_neg hgt, decide_eq_false hgt]
              rfl
          · obtain ⟨k, rfl⟩ := Int.eq_ofNat_of_zero_le h0
            have hk : gk = k + 1 := by have := HI.out; omega
            have hkl : k < dx.length := by omega
            obtain ⟨bk, ok, ek, hck, hlk⟩ := hda1.at (i := k) hkl
            obtain ⟨rfl, rfl⟩ : b1 = bk ∧ o1 = ok := by simpa using ek
            have HS := hide (val_drop (b := BB) hkl)
            have hdk := dxn.at hkl
            rw [BB_eq] at hdk
            generalize dx[k] = dk at *
            have HV2 : Hid (dk + 1000000000 * V = val BB (dx.drop k)) := hide (by rw [HV1.out, hk, HS.out, BB_eq])
            have hlim2 : dk + 1000000000 * V < 5000000000000000000 := by
              have h1 := HV2.out
              have h2 := val_drop_le (b := BB) (by rw [BB_eq]; decide) dx k
              have h3 := HL.out
              omega
            go_wp2_with fail
            go_roundg k
            case measure => omega
            case rel => exact ⟨rfl, dk + 1000000000 * V, _, by go_num, rfl, by omega, hide HV2.out, hide (by omega)⟩
    · have he3 : ((dx.length : Int) == 3) = false := by simp; omega
      have HL := hide (show val BB dx < 5000000000000000000 by
        have h1 := val_lt dxn
        have h2 : BB ^ dx.length ≤ BB ^ 2 := Nat.pow_le_pow_right (by omega) (by omega)
        have h3 : BB ^ 2 = 1000000000000000000 := by rw [BB_eq]
        omega)
      clear big3 v3 hBB
      have s0 : val BB (dx.drop dx.length) = 0 := by simp [val]
      have S0 := hide s0
      clear s0
      go_wp2_with fail
      clear he3
      go_loopg [5, 6] dx.length (fun r v i wr => W1 = wr ∧ ∃ (V : Nat) (iz : Int), v = .int .i64 (V : Int) ∧ i = .int .i64 iz ∧ r ≤ dx.length ∧ Hid (V = val BB (dx.drop r)) ∧ Hid (iz + 1 = (r : Int)))
      case atStart => exact ⟨rfl, 0, _, rfl, rfl, Nat.le_refl _, hide S0.out.symm, hide (by omega)⟩
      case round =>
        obtain ⟨rfl, V, iz, rfl, rfl, hr, HV1, HI⟩ := hrel
        have hVlim : V < 5000000000000000000 := by
          have h1 := HV1.out
          have h2 := val_drop_le (b := BB) (by rw [BB_eq]; decide) dx gk
          have h3 := HL.out
          omega
        rcases Int.lt_or_le iz 0 with h0 | h0
        · obtain rfl : iz = -1 := by have := HI.out; omega
          have hg0 : gk = 0 := by have := HI.out; omega
          have HE : Hid (V = x.natAbs) := hide (by rw [HV1.out, hg0, List.drop_zero, HV.out])
          by_cases hgt : V ≤ 4611686018427387904
          · have hgd : decide ((4611686018427387904 : Int) < (V : Int)) = false := by simp; omega
            cases nx with
            | true =>
              go_wp2_with fail
              rw [← HP.out]
              refine ⟨?_, hB2⟩
              have e1 := HE.out
              have e2 := HNX.out
              rw [← e1, if_pos hgt, decide_eq_true hgt, e2, ← e1]
              simp [signZ]
            | false =>
              go_wp2_with fail
              rw [← HP.out]
              refine ⟨?_, hB2⟩
              have e1 := HE.out
              have e2 := HNX.out
              rw [← e1, if_pos hgt, decide_eq_true hgt, e2, ← e1]
              simp [signZ]
          · have hgd : decide ((4611686018427387904 : Int) < (V : Int)) = true := by simp; omega
            go_wp2_with fail
            rw [← HP.out]
            refine ⟨?_, hB2⟩
            have e1 := HE.out
            rw [← e1, if_neg hgt, decide_eq_false hgt]
            rfl
        · obtain ⟨k, rfl⟩ := Int.eq_ofNat_of_zero_le h0
          have hk : gk = k + 1 := by have := HI.out; omega
          have hkl : k < dx.length := by omega
          obtain ⟨bk, ok, ek, hck, hlk⟩ := hda1.at (i := k) hkl
          subst ek
          have HS := hide (val_drop (b := BB) hkl)
          have hdk := dxn.at hkl
          rw [BB_eq] at hdk
          generalize dx[k] = dk at *
          have HV2 : Hid (dk + 1000000000 * V = val BB (dx.drop k)) := hide (by rw [HV1.out, hk, HS.out, BB_eq])
          have hlim2 : dk + 1000000000 * V < 5000000000000000000 := by
            have h1 := HV2.out
            have h2 := val_drop_le (b := BB) (by rw [BB_eq]; decide) dx k
            have h3 := HL.out
            omega
          go_wp2_with fail
          go_roundg k
          case measure => omega
          case rel => exact ⟨rfl, dk + 1000000000 * V, _, by go_num, rfl, by omega, hide HV2.out, hide (by omega)⟩
end Go.Proofs.YthpibilefdmemaaDoor

namespace Go.Proofs.YthpibilefdmemaaDoor
open Go.RowKit

def Raw.val (r : Raw) : Value := .agg #[.bool r.neg, .slice r.at_ r.ds.length r.cap]
/-- An integer came in whole. -/
structure RawOk (w : World) (r : Raw) : Prop where
  dig : Dg .u32 w r.at_ r.ds
  fit : Fit r.at_ r.ds.length r.cap
  max : r.ds.length ≤ 9223372036854775807
theorem RawOk.int {w : World} {r : Raw} (h : RawOk w r) (ho : r.odd = false) : ∃ z : Int, IntV w r.val z ∧ len z ≤ 10 := by
  obtain ⟨n, a, c, ds⟩ := r
  simp only [Raw.odd, Bool.or_eq_false_iff, Bool.not_eq_false'] at ho
  obtain ⟨z, h1, h2⟩ := rightB_val ho.2
  subst h1 h2
  exact ⟨z, ⟨a, c, rfl, h.fit, h.dig⟩, by simpa [len] using ho.1⟩
theorem RawOk.below {w w' : World} {B : Nat} {r : Raw} (h : RawOk w r) (hb : Below B w w') (hB : w.heap.size ≤ B) : RawOk w' r := ⟨h.dig.below hb hB, h.fit, h.max⟩
theorem sm10 {z : Int} (h : len z ≤ 10) : Sm z := by unfold Sm; omega
theorem sm_add {x y : Int} (hx : len x ≤ 1000) (hy : len y ≤ 1000) : len (x + y) ≤ 1001 := by
  unfold len at *
  have h1 := dg_len_mono BB2 (show (x + y).natAbs ≤ x.natAbs + y.natAbs by omega)
  have h2 := dg_len_add BB2 x.natAbs y.natAbs
  omega
theorem sm_mul {x y : Int} (hx : len x ≤ 1000) (hy : len y ≤ 1000) : len (x * y) ≤ 2000 := by
  unfold len at *
  rw [Int.natAbs_mul]
  have h2 := dg_len_mul BB2 x.natAbs y.natAbs
  omega

/-- Three integers in boxes. -/
def Three (w : World) (B : Nat) (x y z : Raw) (c : World) : Prop :=
  Blk c B 24 #[.bool x.neg, .slice x.at_ x.ds.length x.cap] ∧ Blk c (B + 1) 24 #[.bool y.neg, .slice y.at_ y.ds.length y.cap] ∧ Blk c (B + 2) 24 #[.bool z.neg, .slice z.at_ z.ds.length z.cap] ∧ Below w.heap.size w c
theorem Three.grow {w c c' : World} {B : Nat} {x y z : Raw} (h : Three w B x y z c) (hb : Below c.heap.size c c') : Three w B x y z c' :=
  ⟨h.1.below hb h.1.lt, h.2.1.below hb h.2.1.lt, h.2.2.1.below hb h.2.2.1.lt, h.2.2.2.trans (hb.mono h.2.2.2.size)⟩


theorem odd3 (x y z : Raw) (w : World) (hx : RawOk w x) (hy : RawOk w y) (hz : RawOk w z) :
    Calls Tryd.prog 21 #[.slice (some ⟨w.heap.size, 0, none⟩) 3 3] (w.alloc (.cells #[.bool x.neg, .slice x.at_ x.ds.length x.cap, .bool y.neg, .slice y.at_ y.ds.length y.cap, .bool z.neg, .slice z.at_ z.ds.length z.cap] 24)) fun e w' => ∃ o, e = .returned (.bool o) ∧ Below w.heap.size w w' ∧ (o = false → x.odd = false ∧ y.odd = false ∧ z.odd = false) := by
  obtain ⟨W, hW⟩ : ∃ W, w.alloc (.cells #[.bool x.neg, .slice x.at_ x.ds.length x.cap, .bool y.neg, .slice y.at_ y.ds.length y.cap, .bool z.neg, .slice z.at_ z.ds.length z.cap] 24) = W := ⟨_, rfl⟩
  have hB : Blk W w.heap.size 24 #[.bool x.neg, .slice x.at_ x.ds.length x.cap, .bool y.neg, .slice y.at_ y.ds.length y.cap, .bool z.neg, .slice z.at_ z.ds.length z.cap] := by rw [← hW]; exact Blk.new _ _ _
  have hb : Below w.heap.size w W := by rw [← hW]; exact (Below.refl _ _).alloc (Nat.le_refl _) _
  rw [hW]
  have hr : RawRow W w.heap.size [x, y, z] := by
    intro i hi
    match i, hi with
    | 0, _ => exact ⟨hB.cell 0, hB.cell 1, hx.dig.below hb (Nat.le_refl _), hx.max⟩
    | 1, _ => exact ⟨hB.cell 2, hB.cell 3, hy.dig.below hb (Nat.le_refl _), hy.max⟩
    | 2, _ => exact ⟨hB.cell 4, hB.cell 5, hz.dig.below hb (Nat.le_refl _), hz.max⟩
  refine (Odd_any w.heap.size [x, y, z] W hr (by simp)).mono ?_
  rintro e w' ⟨rfl, hb'⟩
  exact ⟨_, rfl, hb.trans (hb'.mono hb.size), fun h => by simpa using h⟩
theorem odd2 (x y : Raw) (w : World) (hx : RawOk w x) (hy : RawOk w y) :
    Calls Tryd.prog 21 #[.slice (some ⟨w.heap.size, 0, none⟩) 2 2] (w.alloc (.cells #[.bool x.neg, .slice x.at_ x.ds.length x.cap, .bool y.neg, .slice y.at_ y.ds.length y.cap] 24)) fun e w' => ∃ o, e = .returned (.bool o) ∧ Below w.heap.size w w' ∧ (o = false → x.odd = false ∧ y.odd = false) := by
  obtain ⟨W, hW⟩ : ∃ W, w.alloc (.cells #[.bool x.neg, .slice x.at_ x.ds.length x.cap, .bool y.neg, .slice y.at_ y.ds.length y.cap] 24) = W := ⟨_, rfl⟩
  have hB : Blk W w.heap.size 24 #[.bool x.neg, .slice x.at_ x.ds.length x.cap, .bool y.neg, .slice y.at_ y.ds.length y.cap] := by rw [← hW]; exact Blk.new _ _ _
  have hb : Below w.heap.size w W := by rw [← hW]; exact (Below.refl _ _).alloc (Nat.le_refl _) _
  rw [hW]
  have hr : RawRow W w.heap.size [x, y] := by
    intro i hi
    match i, hi with
    | 0, _ => exact ⟨hB.cell 0, hB.cell 1, hx.dig.below hb (Nat.le_refl _), hx.max⟩
    | 1, _ => exact ⟨hB.cell 2, hB.cell 3, hy.dig.below hb (Nat.le_refl _), hy.max⟩
  refine (Odd_any w.heap.size [x, y] W hr (by simp)).mono ?_
  rintro e w' ⟨rfl, hb'⟩
  exact ⟨_, rfl, hb.trans (hb'.mono hb.size), fun h => by simpa using h⟩

section
variable {w c : World} {x y : Int} {u v : Value}
theorem Add_at (hx : IntV w u x) (hy : IntV w v y) (hn : Sm x) (hm : Sm y) (hB : Below w.heap.size w c) : Calls Tryd.prog 25 #[u, v] c (IntPost c (x + y)) := Add_any c (hx.below hB (Nat.le_refl _)) (hy.below hB (Nat.le_refl _)) hn hm
theorem Mul_at (hx : IntV w u x) (hy : IntV w v y) (hn : Sm x) (hm : Sm y) (hB : Below w.heap.size w c) : Calls Tryd.prog 27 #[u, v] c (IntPost c (x * y)) := Mul_any c (hx.below hB (Nat.le_refl _)) (hy.below hB (Nat.le_refl _)) hn hm
theorem Cmp_at (hx : IntV w u x) (hy : IntV w v y) (hn : Sm x) (hm : Sm y) (hB : Below w.heap.size w c) {C : Int} (hC : ordZ x y = C) : Calls Tryd.prog 33 #[u, v] c fun e w' => e = .returned (.int .i64 C) ∧ Below c.heap.size c w' := by
  subst hC
  exact (Cmp_any c (hx.below hB (Nat.le_refl _)) (hy.below hB (Nat.le_refl _)) hn hm)
end
end Go.Proofs.YthpibilefdmemaaDoor

namespace Go.Proofs.YthpibilefdmemaaDoor
open Go.RowKit

/-- Is it a decimal digit? -/
def decB (c : UInt8) : Bool := decide (48 ≤ c.toNat) && decide (c.toNat ≤ 57)
/-- The number of decimal digits, the first ahead. -/
def decN (l : List UInt8) : Nat := l.foldl (fun n c => n * 10 + (c.toNat - 48)) 0
/-- The text behind its sign. -/
def body (s : List UInt8) : List UInt8 := if s.head? = some 45 then s.drop 1 else s
/-- Is it a number's text? -/
def okT (s : List UInt8) : Bool := decide (0 < (body s).length) && decide ((body s).length ≤ 10000) && (body s).all decB
/-- The number of a text. -/
def numT (s : List UInt8) : Int := if okT s then signZ (decide (s.head? = some 45)) (decN (body s)) else 0

theorem foldl_dec (l : List UInt8) : ∀ a : Nat, l.foldl (fun n c => n * 10 + (c.toNat - 48)) a = a * 10 ^ l.length + decN l := by
  induction l with
  | nil => intro a; simp [decN]
  | cons c l ih =>
    intro a
    have e : decN (c :: l) = (0 * 10 + (c.toNat - 48)) * 10 ^ l.length + decN l := ih _
    rw [List.foldl_cons, ih, e, List.length_cons, Nat.pow_succ, Nat.zero_mul, Nat.zero_add, Nat.add_mul, Nat.mul_assoc, Nat.mul_comm 10, Nat.add_assoc]
theorem decN_append (a b : List UInt8) : decN (a ++ b) = decN a * 10 ^ b.length + decN b := by
  rw [decN, List.foldl_append, foldl_dec b]; rfl
theorem decN_snoc (a : List UInt8) (c : UInt8) : decN (a ++ [c]) = decN a * 10 + (c.toNat - 48) := by
  rw [decN, List.foldl_append]; rfl
theorem decN_lt : ∀ (l : List UInt8), l.all decB = true → decN l < 10 ^ l.length
  | [], _ => by simp [decN]
  | c :: l, h => by
    simp only [List.all_cons, Bool.and_eq_true] at h
    have h1 := decN_lt l h.2
    have h2 : c.toNat ≤ 57 := by have := h.1; simp [decB] at this; exact this.2
    have e : decN (c :: l) = (0 * 10 + (c.toNat - 48)) * 10 ^ l.length + decN l := foldl_dec l _
    rw [e, List.length_cons, Nat.pow_succ]
    have h3 : (0 * 10 + (c.toNat - 48)) * 10 ^ l.length ≤ 9 * 10 ^ l.length := Nat.mul_le_mul_right _ (by omega)
    omega
theorem decB_at {l : List UInt8} (h : l.all decB = true) {i : Nat} (hi : i < l.length) : 48 ≤ (l[i]).toNat ∧ (l[i]).toNat ≤ 57 := by
  have := List.all_eq_true.1 h _ (List.getElem_mem hi)
  simpa [decB] using this

theorem extract_drop (s : List UInt8) : (⟨s.toArray⟩ : ByteArray).extract 1 s.length = ⟨(s.drop 1).toArray⟩ := by
  apply ByteArray.ext
  simp [ByteArray.data_extract]
  exact List.take_of_length_le (by simp)

/-- The digits so far, of all but the first r. -/
structure PaSt (w : World) (base : Nat) (bs : List UInt8) (v : Value) (ds : List Nat) (r : Nat) (wr : World) : Prop where
  own : OwnD wr base v ds
  digs : Digs BB ds
  sum : val BB ds + BB ^ ds.length * decN (bs.take r) = decN bs
  bel : Below base w wr
  le : base ≤ wr.heap.size
  at_ : r ≤ bs.length
  len : ds.length + r ≤ bs.length

/-- What Parse leaves. -/
def ParsePost (w : World) (s : List UInt8) (e : Ending) (w' : World) : Prop := ∃ r, e = .returned (.tuple #[r, .bool (okT s)]) ∧ IntV w' r (numT s) ∧ Below w.heap.size w w'

set_option maxRecDepth 100000 in
set_option maxHeartbeats 3200000 in
theorem Parse_any (s : List UInt8) (w : World) (hs : s.length ≤ 1099511627776) :
    Calls Tryd.prog 12 #[.string ⟨s.toArray⟩] w (ParsePost w s) := by
  generalize hP : ParsePost w s = Post
  have HP := hide hP
  clear hP
  have hZ0 := Blk.new w 24 #[.bool false, .slice none 0 0]
  have hB0 : Below w.heap.size w (w.alloc (.cells #[.bool false, .slice none 0 0] 24)) := (Below.refl _ _).alloc (Nat.le_refl _) _
  go_enter Tryd.func12, Tryd.ntmps12
  go_upto_region 1 with (fail)
  have hsz : (w.alloc (.cells #[.bool false, .slice none 0 0] 24)).heap.size = w.heap.size + 1 := by simp
  have HSZ := hide hsz
  clear hsz
  generalize w.alloc (.cells #[.bool false, .slice none 0 0] 24) = W at hZ0 hB0 HSZ ⊢
  have HBd := hide (show body s = if decide (s.head? = some 45) = true then s.drop 1 else s by simp [body])
  go_cut [4] from 10 to 17 (fun v4 wc => W = wc ∧ v4 = .bool (decide (s.head? = some 45)))
  case first =>
    cases s with
    | nil =>
      go_wp2_with fail
      go_meet
      exact ⟨rfl, rfl⟩
    | cons c l =>
      have hsz : (⟨(c :: l).toArray⟩ : ByteArray).size = l.length + 1 := by simp [ByteArray.size]
      go_wp2_with fail
      go_meet
      refine ⟨rfl, ?_⟩
      have e : (⟨(c :: l).toArray⟩ : ByteArray)[0] = c := rfl
      rw [e, List.head?_cons]
      congr 1
      rw [Bool.eq_iff_iff]
      simp [← UInt8.toNat_inj]
      omega
  case rest =>
    obtain ⟨rfl, rfl⟩ := hcut
    have hne : decide (s.head? = some 45) = true → 1 ≤ s.length := by
      cases s with
      | nil => simp
      | cons c l => simp
    generalize hneg : decide (s.head? = some 45) = neg at *
    have HNEG := hide hneg
    clear hneg
    have hsz : (⟨s.toArray⟩ : ByteArray).size = s.length := by simp [ByteArray.size]
    go_upto_if 18 with (fail)
    go_cut [0] from 19 to 20 (fun v0 wc => W = wc ∧ v0 = .string ⟨(body s).toArray⟩)
    case first =>
      cases neg with
      | true =>
        have h1 := hne rfl
        go_wp2_with fail
        go_meet
        exact ⟨rfl, by rw [HBd.out, extract_drop]; simp⟩
      | false =>
        go_wp2_with fail
        go_meet
        exact ⟨rfl, by rw [HBd.out]; simp⟩
    case rest =>
      obtain ⟨rfl, rfl⟩ := hcut
      have hbl : (body s).length ≤ s.length := by unfold body; split <;> simp
      have HOK := hide (show okT s = (decide (0 < (body s).length) && decide ((body s).length ≤ 10000) && (body s).all decB) from rfl)
      have HNT := hide (show numT s = if okT s = true then signZ neg (decN (body s)) else 0 by rw [← HNEG.out]; rfl)
      have HPP : Hid (∀ r w', IntV w' r (numT s) → Below w.heap.size w w' → Post (.returned (.tuple #[r, .bool (okT s)])) w') := hide (fun r w' h1 h2 => by rw [← HP.out]; exact ⟨r, rfl, h1, h2⟩)
      clear HBd hne hsz HP
      generalize body s = bs at *
      generalize okT s = ok at *
      generalize numT s = nt at *
      have hsz : (⟨bs.toArray⟩ : ByteArray).size = bs.length := by simp [ByteArray.size]
      obtain ⟨c0, c1, cf⟩ := hZ0.c2
      have hZ1 := hZ0.two (.bool false) (.slice none 0 0)
      have hB1 : Below w.heap.size w ((W.setCell ⟨w.heap.size, 0, none⟩ (.bool false)).setCell ⟨w.heap.size, 1, none⟩ (.slice none 0 0)) := (hB0.setCell (Nat.le_refl _) _).setCell (Nat.le_refl _) _
      have HFAIL : Hid (ok = false → Post (.returned (.tuple #[.agg #[.bool false, .slice none 0 0], .bool false])) ((W.setCell ⟨w.heap.size, 0, none⟩ (.bool false)).setCell ⟨w.heap.size, 1, none⟩ (.slice none 0 0))) := hide (fun h => by
        have h2 := HNT.out
        rw [h] at h2
        simp at h2
        have h3 := HPP.out (.agg #[.bool false, .slice none 0 0]) _ (by rw [h2]; exact IntV.zero _) hB1
        rw [h] at h3
        exact h3)
      obtain ⟨e0, e1, -⟩ := hZ1.c2
      by_cases h0 : bs.length = 0
      · have hb0 : ((bs.length : Int) == 0) = true := by rw [h0]; rfl
        have HV := hide (HFAIL.out (by rw [HOK.out, decide_eq_false (show ¬ 0 < bs.length by omega)]; rfl))
        go_wp2_with fail
        refine bodyPost_ret (v := .tuple #[.agg #[.bool false, .slice none 0 0], .bool false]) (by simp [results, Tryd.results12, go_sem, e0, e1]) rfl ?_
        exact HV.out
      · have hb0 : ((bs.length : Int) == 0) = false := beq_eq_false_iff_ne.2 (by omega)
        by_cases hbig : 10000 < bs.length
        · have hb1 : decide ((10000 : Int) < (bs.length : Int)) = true := by simp; omega
          have hb2 : (10000 : Int) < (bs.length : Int) := by omega
          have HV := hide (HFAIL.out (by rw [HOK.out, decide_eq_false (show ¬ bs.length ≤ 10000 by omega)]; simp))
          go_wp2_with fail
          refine bodyPost_ret (v := .tuple #[.agg #[.bool false, .slice none 0 0], .bool false]) (by simp [results, Tryd.results12, go_sem, e0, e1]) rfl ?_
          exact HV.out
        · have hb1 : decide ((10000 : Int) < (bs.length : Int)) = false := by simp; omega
          have hb2 : ¬ (10000 : Int) < (bs.length : Int) := by omega
          have HOK2 := hide (show ok = bs.all decB by rw [HOK.out, decide_eq_true (show 0 < bs.length by omega), decide_eq_true (show bs.length ≤ 10000 by omega)]; rfl)
          have hbl2 : bs.length ≤ 10000 := by omega
          clear HOK hbig
          go_wp2_with fail
          go_loopg [32] bs.length (fun k v wr => W = wr ∧ ∃ j : Nat, j + k = bs.length ∧ v = .int .i64 (j : Int) ∧ Hid ((bs.take j).all decB = true))
          case atStart => exact ⟨rfl, 0, by omega, rfl, hide (by simp)⟩
          case round =>
            obtain ⟨rfl, j, hjk, rfl, HT⟩ := hrel
            rcases Nat.eq_zero_or_pos gk with hk0 | hk0
            · subst hk0
              obtain rfl : j = bs.length := by omega
              have hall : bs.all decB = true := by have h := HT.out; rwa [List.take_length] at h
              have HALL := hide hall
              clear hall
              have hok : ok = true := by rw [HOK2.out]; exact HALL.out
              have HNT2 := hide (show nt = signZ neg (decN bs) by rw [HNT.out, if_pos hok])
              have HOKT := hide hok
              clear hok HT hjk e0 e1 hZ1 hB1 c0 c1 cf
              have hle0 : w.heap.size + 1 ≤ W.heap.size := by rw [HSZ.out]; exact Nat.le_refl _
              have s0 : PaSt W (w.heap.size + 1) bs (.slice none 0 0) [] bs.length W := ⟨OwnD.nil _ _, Digs.nil _, by simp [val], Below.refl _ _, hle0, Nat.le_refl _, by simp⟩
              go_wp2_with fail
              go_loopg [6, 7] bs.length (fun r v e wr => ∃ (ds : List Nat) (ez : Int), e = .int .i64 ez ∧ (ez = (r : Int) ∨ r = 0 ∧ -9 ≤ ez ∧ ez ≤ 0) ∧ PaSt W (w.heap.size + 1) bs v ds r wr)
              case atStart => exact ⟨[], _, rfl, .inl rfl, s0⟩
              case round =>
                obtain ⟨ds, ez, rfl, hez, st⟩ := hrel
                clear s0
                rcases Nat.eq_zero_or_pos gk with hr0 | hr0
                · subst hr0
                  have hez0 : ¬ (0 : Int) < ez := by omega
                  have hez1 : decide ((0 : Int) < ez) = false := by simp; omega
                  have hv : val BB ds = decN bs := by have := st.sum; simpa [decN] using this
                  obtain ⟨va, vc, rfl⟩ := own_slice st.own
                  obtain ⟨hD, hF⟩ := own_dg st.own
                  have hlen := st.len
                  have hdig := st.digs
                  have hZ2 := hZ0.below st.bel (Nat.lt_succ_self _)
                  have hB2 := hB0.trans (st.bel.mono (by omega))
                  have HV := hide (show signZ neg (val BB ds) = nt by rw [hv, HNT2.out])
                  clear st hez hv
                  go_wp2_with fail
                  refine (signed_any neg va vc ds wr hD hdig hF.le (by omega)).mono ?_
                  rintro e w3 ⟨r3, rfl, h3, hb3⟩
                  rw [HV.out] at h3
                  obtain ⟨rn, ra, rl, rc, rfl⟩ := h3.parts
                  have hZ3 := hZ2.below hb3 hZ2.lt
                  have hB3 : Below w.heap.size w w3 := hB2.trans (hb3.mono hB2.size)
                  have hI := h3.store hZ3 (.bool rn) (.slice ra rl rc)
                  obtain ⟨k0, k1, kf⟩ := hZ3.c2
                  have kf0 := kf 0
                  have kf1 := kf 1
                  obtain ⟨e0, e1, -⟩ := (hZ3.two (.bool rn) (.slice ra rl rc)).c2
                  go_wp2_with fail
                  refine bodyPost_ret (v := .tuple #[.agg #[.bool rn, .slice ra rl rc], .bool true]) (by simp [results, Tryd.results12, go_sem, e0, e1]) rfl ?_
                  have h4 := HPP.out _ _ hI ((hB3.setCell (Nat.le_refl _) _).setCell (Nat.le_refl _) _)
                  rw [HOKT.out] at h4
                  exact h4
                · obtain ⟨R, hR⟩ : ∃ R, R = gk := ⟨_, rfl⟩
                  subst hR
                  obtain rfl : ez = (R : Int) := by omega
                  clear hez
                  obtain ⟨st0, hst0⟩ : ∃ st0 : Nat, st0 = R - 9 := ⟨_, rfl⟩
                  have hgl := st.at_
                  have hlen := st.len
                  have hst1 : st0 ≤ R := by omega
                  have hst2 : R ≤ st0 + 9 := by omega
                  have HST := hide hst0
                  clear hst0
                  go_upto_region 17 with (fail)
                  go_cut [9] from 53 to 55 (fun v9 wc => wr = wc ∧ v9 = .int .i64 (st0 : Int))
                  case first =>
                    by_cases h9 : (0 : Int) ≤ (R : Int) - 9
                    · go_wp2_with fail
                      go_meet
                      exact ⟨rfl, by have := HST.out; congr 1; omega⟩
                    · go_wp2_with fail
                      go_meet
                      exact ⟨rfl, by have := HST.out; congr 1; omega⟩
                  case rest =>
                  obtain ⟨rfl, rfl⟩ := hcut
                  go_wp2_with fail
                  go_loopg [8, 9] (R - st0) (fun k v8 v9 wi => wr = wi ∧ ∃ j : Nat, j + k = R ∧ st0 ≤ j ∧ v9 = .int .i64 (j : Int) ∧ ∃ dn : Nat, v8 = .int .u32 (dn : Int) ∧ Hid (dn = decN ((bs.drop st0).take (j - st0))))
                  case atStart => exact ⟨rfl, st0, by omega, Nat.le_refl _, rfl, 0, rfl, hide (by simp [decN])⟩
                  case round =>
                    obtain ⟨rfl, j, hjg, hsj, rfl, dn, rfl, HDN⟩ := hrel
                    have hpl : ((bs.drop st0).take (j - st0)).length = j - st0 := by simp; omega
                    have hpd : ((bs.drop st0).take (j - st0)).all decB = true := List.all_eq_true.2 fun x hx => List.all_eq_true.1 HALL.out x (List.mem_of_mem_drop (List.mem_of_mem_take hx))
                    have hlt := decN_lt _ hpd
                    rw [hpl, ← HDN.out] at hlt
                    rcases Nat.eq_zero_or_pos gk with hk0 | hk0
                    · subst hk0
                      obtain rfl : j = R := by omega
                      have hBB : dn < BB := Nat.lt_of_lt_of_le hlt (show 10 ^ (j - st0) ≤ 10 ^ 9 from Nat.pow_le_pow_right (by decide) (by omega))
                      have hsplit : decN (bs.take j) = decN (bs.take st0) * 10 ^ (j - st0) + dn := by
                        have e : bs.take j = bs.take st0 ++ (bs.drop st0).take (j - st0) := by
                          rw [← List.take_add, show st0 + (j - st0) = j by omega]
                        rw [e, decN_append, hpl, ← HDN.out]
                      have hsum : val BB (ds ++ [dn]) + BB ^ (ds ++ [dn]).length * decN (bs.take st0) = decN bs := by
                        rw [← st.sum, hsplit, val_snoc, List.length_append, List.length_singleton, Nat.pow_succ, Nat.mul_add, Nat.add_assoc, Nat.mul_assoc]
                        congr 1
                        rw [Nat.add_comm]
                        congr 1
                        congr 1
                        rw [Nat.mul_comm]
                        rcases Nat.lt_or_ge j 9 with h9 | h9
                        · have : st0 = 0 := by have := HST.out; omega
                          subst this
                          simp [decN]
                        · have : j - st0 = 9 := by have := HST.out; omega
                          rw [this]; rfl
                      have hown1 := st.own.alloc (.cells #[.int .u32 (dn : Int)] 81)
                      have hle1 := st.le
                      have hbel := st.bel
                      have hdg := st.digs.snoc hBB
                      have HS := hide hsum
                      clear hsum hsplit hlt hpd hpl HDN
                      go_wp2_with (at_builtin; refine wpList_append_dig rfl (.tmp 69) (.tmp 71) rfl (w.heap.size + 1) _ ds rfl hown1 ⟨_, 0, none⟩ dn rfl ?c1 ?c2 ?c3 ?_)
                      case c1 => rw [add_plain]; exact (Blk.new _ _ _).cell 0
                      case c2 => omega
                      case c3 => simp; omega
                      intro v' w2 ho2 hb2
                      have hb3 : Below (w.heap.size + 1) wr w2 := ((Below.refl _ _).alloc hle1 _).trans hb2
                      have s2 : PaSt W (w.heap.size + 1) bs v' (ds ++ [dn]) st0 w2 := ⟨ho2, hdg, HS.out, hbel.trans hb3, Nat.le_trans hle1 hb3.size, by omega, by rw [List.length_append, List.length_singleton]; have := HST.out; omega⟩
                      clear hown1 ho2 hb2 hb3
                      go_wp2_with fail
                      go_roundg st0
                      case measure => have := HST.out; omega
                      case rel => exact ⟨_, _, rfl, by have := HST.out; omega, s2⟩
                    · have hj : j < bs.length := by omega
                      have hjs : j < (⟨bs.toArray⟩ : ByteArray).size := by rw [hsz]; exact hj
                      have hix : (⟨bs.toArray⟩ : ByteArray)[j] = bs[j] := rfl
                      have h48 := decB_at HALL.out hj
                      have hdn8 : dn < 100000000 := Nat.lt_of_lt_of_le hlt (show 10 ^ (j - st0) ≤ 10 ^ 8 from Nat.pow_le_pow_right (by decide) (by omega))
                      have HN : Hid (dn * 10 + ((bs[j]).toNat - 48) = decN ((bs.drop st0).take (j + 1 - st0))) := hide (by
                        have e : (bs.drop st0).take (j + 1 - st0) = (bs.drop st0).take (j - st0) ++ [bs[j]] := by
                          rw [show j + 1 - st0 = (j - st0) + 1 by omega, List.take_succ_eq_append_getElem (by simp; omega)]
                          congr 2
                          simp
                          congr 1
                          omega
                        rw [e, decN_snoc, ← HDN.out])
                      generalize bs[j] = c at hix h48 HN
                      obtain ⟨q, hq⟩ : ∃ q : Nat, q = c.toNat - 48 := ⟨_, rfl⟩
                      rw [← hq] at HN
                      have hq1 : (c.toNat : Int) - 48 = (q : Int) := by omega
                      have hq9 : q ≤ 9 := by omega
                      have hu1 : IntKind.u32.wrap ((dn : Int) * 10) = ((dn * 10 : Nat) : Int) := by rw [IntWalk.u32_in _ (by omega)]; omega
                      have hu2 : IntKind.u32.wrap (((dn * 10 : Nat) : Int) + (q : Int)) = ((dn * 10 + q : Nat) : Int) := by rw [IntWalk.u32_in _ (by omega)]; omega
                      clear hlt hpd hpl HDN hq
                      go_wp2_with fail
                      go_roundg (gk - 1)
                      case measure => omega
                      case rel => exact ⟨rfl, j + 1, by omega, by omega, by go_num, dn * 10 + q, by go_num, HN⟩
            · have hj : j < bs.length := by omega
              have hjs : j < (⟨bs.toArray⟩ : ByteArray).size := by rw [hsz]; exact hj
              have hix : (⟨bs.toArray⟩ : ByteArray)[j] = bs[j] := rfl
              have HD1 : Hid (decB bs[j] = true → (bs.take (j + 1)).all decB = true) := hide (fun h => by rw [List.take_succ_eq_append_getElem hj, List.all_append, HT.out]; simp [h])
              have HD0 : Hid (decB bs[j] = false → ok = false) := hide (fun h => by
                rw [HOK2.out]
                exact List.all_eq_false.2 ⟨_, List.getElem_mem hj, by simp [h]⟩)
              generalize bs[j] = c at hix HD1 HD0
              cases hdc : decB c with
              | true =>
                have h48 : 48 ≤ c.toNat ∧ c.toNat ≤ 57 := by simpa [decB] using hdc
                have t1 : decide ((c.toNat : Int) < 48) = false := by simp; omega
                have t2 : decide ((57 : Int) < (c.toNat : Int)) = false := by simp; omega
                have t3 : ¬ (c.toNat : Int) < 48 := by omega
                have t4 : ¬ (57 : Int) < (c.toNat : Int) := by omega
                have HV := hide (HD1.out hdc)
                clear HD1 HD0 hdc HT
                go_wp2_with fail
                go_roundg (gk - 1)
                case measure => omega
                case rel => exact ⟨rfl, j + 1, by omega, by go_num, HV⟩
              | false =>
                have HV := hide (HFAIL.out (HD0.out hdc))
                have h48 : c.toNat < 48 ∨ 57 < c.toNat := by
                  rcases Nat.lt_or_ge c.toNat 48 with h | h
                  · exact .inl h
                  · refine .inr ?_
                    rcases Nat.lt_or_ge 57 c.toNat with h' | h'
                    · exact h'
                    · exfalso; rw [decB, decide_eq_true h, decide_eq_true h'] at hdc; cases hdc
                clear HD1 HD0 hdc HT
                by_cases h1 : c.toNat < 48
                · have t1 : decide ((c.toNat : Int) < 48) = true := by simp; omega
                  have t3 : (c.toNat : Int) < 48 := by omega
                  go_wp2_with fail
                  refine bodyPost_ret (v := .tuple #[.agg #[.bool false, .slice none 0 0], .bool false]) (by simp [results, Tryd.results12, go_sem, e0, e1]) rfl ?_
                  exact HV.out
                · have t1 : decide ((c.toNat : Int) < 48) = false := by simp; omega
                  have t2 : decide ((57 : Int) < (c.toNat : Int)) = true := by simp; omega
                  have t3 : ¬ (c.toNat : Int) < 48 := by omega
                  have t4 : (57 : Int) < (c.toNat : Int) := by omega
                  go_wp2_with fail
                  refine bodyPost_ret (v := .tuple #[.agg #[.bool false, .slice none 0 0], .bool false]) (by simp [results, Tryd.results12, go_sem, e0, e1]) rfl ?_
                  exact HV.out
end Go.Proofs.YthpibilefdmemaaDoor

namespace Go.Proofs.YthpibilefdmemaaDoor
open Go.RowKit

theorem dec_facts : ∀ (k n : Nat), n ≤ k → decN (Lib.decDigits n) = n ∧ (Lib.decDigits n).all decB = true ∧ (Lib.decDigits n).head? ≠ some 45
  | 0, n, h => by
    obtain rfl : n = 0 := by omega
    rw [Lib.decDigits_one (by decide)]
    exact ⟨rfl, rfl, by decide⟩
  | k + 1, n, h => by
    by_cases h10 : n < 10
    · rw [Lib.decDigits_one h10]
      have e : (UInt8.ofNat (48 + n)).toNat = 48 + n := by rw [UInt8.toNat_ofNat']; omega
      refine ⟨?_, ?_, ?_⟩
      · show 0 * 10 + ((UInt8.ofNat (48 + n)).toNat - 48) = n
        rw [e]; omega
      · simp only [List.all_cons, List.all_nil, Bool.and_true, decB, e]
        simp; omega
      · intro h
        have h1 : UInt8.ofNat (48 + n) = 45 := by simpa using h
        have h2 := congrArg UInt8.toNat h1
        rw [e] at h2
        have : (45 : UInt8).toNat = 45 := rfl
        omega
    · obtain ⟨h1, h2, h3⟩ := dec_facts k (n / 10) (by omega)
      have e : (UInt8.ofNat (48 + n % 10)).toNat = 48 + n % 10 := by rw [UInt8.toNat_ofNat']; omega
      rw [Lib.decDigits, dif_neg h10]
      refine ⟨?_, ?_, ?_⟩
      · rw [decN_snoc, h1, e]; omega
      · rw [List.all_append, h2]
        simp only [List.all_cons, List.all_nil, Bool.and_true, decB, e]
        simp; omega
      · rw [List.head?_append]
        cases hd : (Lib.decDigits (n / 10)).head? with
        | none =>
          exfalso
          have h4 := congrArg List.length (List.head?_eq_none_iff.1 hd)
          rw [Lib.decDigits_length] at h4
          have h5 : 0 < Lib.nDigits (n / 10) := by
            by_cases h : n / 10 < 10
            · rw [Lib.nDigits_small h]; decide
            · rw [Lib.nDigits_big h]; omega
          simp at h4
          omega
        | some c => rw [hd] at h3; simpa using h3
theorem nDigits_pos (n : Nat) : 0 < Lib.nDigits n := by
  by_cases h : n < 10
  · rw [Lib.nDigits_small h]; decide
  · rw [Lib.nDigits_big h]; omega
theorem nDigits_le : ∀ (k n : Nat), n < 10 ^ (k + 1) → Lib.nDigits n ≤ k + 1
  | k, n, h => (fix_pad k n h).1
theorem body_decZ (x : Int) : body (decZ x) = Lib.decDigits x.natAbs ∧ decide ((decZ x).head? = some 45) = decide (x < 0) := by
  have h3 := (dec_facts x.natAbs x.natAbs (Nat.le_refl _)).2.2
  by_cases h : x < 0
  · have e : decZ x = 45 :: Lib.decDigits x.natAbs := by unfold decZ; rw [if_pos h]; rfl
    rw [e]
    exact ⟨by unfold body; rw [List.head?_cons, if_pos rfl]; rfl, by rw [List.head?_cons, decide_eq_true rfl, decide_eq_true h]⟩
  · have e : decZ x = Lib.decDigits x.natAbs := by unfold decZ; rw [if_neg h]; rfl
    rw [e]
    exact ⟨by unfold body; rw [if_neg h3], by rw [decide_eq_false h3, decide_eq_false h]⟩
theorem nDigits_len {x : Int} (h : len x ≤ 20) : Lib.nDigits x.natAbs ≤ 181 := by
  refine nDigits_le 180 _ ?_
  have k1 := dg_lt BB2 x.natAbs
  have k2 : BB ^ (dg BB x.natAbs).length ≤ BB ^ 20 := Nat.pow_le_pow_right (by decide) h
  have k3 : BB ^ 20 = 10 ^ (9 * 20) := by rw [show BB = 10 ^ 9 from rfl, ← Nat.pow_mul]
  have k4 : 10 ^ (9 * 20) ≤ 10 ^ (180 + 1) := Nat.pow_le_pow_right (by decide) (by decide)
  exact Nat.lt_of_lt_of_le k1 (Nat.le_trans k2 (k3 ▸ k4))
theorem parse_text {x : Int} (h : len x ≤ 20) : okT (decZ x) = true ∧ numT (decZ x) = x := by
  obtain ⟨hb, hn⟩ := body_decZ x
  obtain ⟨h1, h2, -⟩ := dec_facts x.natAbs x.natAbs (Nat.le_refl _)
  have hl := nDigits_len h
  have ok : okT (decZ x) = true := by
    unfold okT
    rw [hb, h2, Lib.decDigits_length, decide_eq_true (nDigits_pos _), decide_eq_true (show Lib.nDigits x.natAbs ≤ 10000 by omega)]
    rfl
  refine ⟨ok, ?_⟩
  unfold numT
  rw [if_pos ok, hb, hn, h1]
  unfold signZ
  by_cases h : x < 0
  · rw [decide_eq_true h, if_pos rfl]; omega
  · rw [decide_eq_false h, if_neg (by decide)]; omega

theorem div_back {x y : Int} : x / y * y + x % y = x := by rw [Int.mul_comm]; exact Int.mul_ediv_add_emod x y
theorem rest_small {x y : Int} (hy : y ≠ 0) : 0 ≤ x % y ∧ ordZ (x % y) (y.natAbs : Int) = -1 := by
  have h1 := Int.emod_nonneg x hy
  have h2 := Int.emod_lt x hy
  refine ⟨h1, ?_⟩
  unfold ordZ
  rw [if_pos h2]
theorem gcd_divides (x y : Int) : x % ((Nat.gcd x.natAbs y.natAbs : Nat) : Int) = 0 ∧ y % ((Nat.gcd x.natAbs y.natAbs : Nat) : Int) = 0 :=
  ⟨Int.emod_eq_zero_of_dvd (Int.ofNat_dvd_left.2 (Nat.gcd_dvd_left _ _)), Int.emod_eq_zero_of_dvd (Int.ofNat_dvd_left.2 (Nat.gcd_dvd_right _ _))⟩
theorem len_neg (x : Int) : len (-x) = len x := by unfold len; rw [Int.natAbs_neg]
theorem len_le {x y : Int} (h : x.natAbs ≤ y.natAbs) : len x ≤ len y := dg_len_mono BB2 h
end Go.Proofs.YthpibilefdmemaaDoor

namespace Go.Proofs.YthpibilefdmemaaDoor
open Go.ChangeShapes Go.WideShapes Go.ChangeAt Go.RowKit

theorem own : ownKnob Tryd.prog.godebug = none := by kernel_rfl
theorem laidOut : laidOutB Tryd.prog = true := by kernel_rfl

/-- What the rows list. -/
abbrev laidB : List (String × DataW Unit) := [("math/bits.deBruijn32tab", Rows.laid_math_bits_deBruijn32tab), ("math/bits.deBruijn64tab", Rows.laid_math_bits_deBruijn64tab), ("internal/strconv.uint64pow10", Rows.laid_internal_strconv_uint64pow10)]

set_option maxRecDepth 100000 in
theorem tab_of {W : World} (h : laidMetH Tryd.prog laidB W) : Tab W := by
  rw [MakeChecks.laidMetH_plain _ _ _ (by kernel_rfl)] at h
  have h1 := laidMet.filter (fun x => x.1 == "internal/strconv.uint64pow10") h
  have e : laidB.filter (fun x => x.1 == "internal/strconv.uint64pow10") = [("internal/strconv.uint64pow10", Lib.tabData .u64 Lib.pow10Tab)] := by rfl
  rw [e] at h1
  exact Lib.tabIs_of_head (g := 0) (by kernel_rfl) (by kernel_rfl) Tryd.underlying125 Tryd.underlying84 (by kernel_rfl) (by kernel_rfl) h1

set_option maxRecDepth 100000 in
/-- A law's step, where the row lists variables and the world's shape is asked for. -/
theorem handed {H : Type} {enc : TypeId × Value → H} {os : Os} {f : FuncId} {fn : Func} {s : ChangeSpec} {conds : List PathCond} {X : World → Array Value → Prop}
    (hX : ∀ (w w' : World) (args : Array Value), w.heap = w'.heap → X w args → X w' args)
    (started : os.Started) (noInit : Tryd.checked.prog.inits.idxOf? f = none) (hfn : Tryd.checked.prog.funcs[f]? = some fn)
    (witness : ∃ (w : World) (tape : Tape) (i : Input), w.os = os ∧ (w.forCall tape i).Shaped Tryd.checked.prog ∧ i.vars = [] ∧ Input.okWide Tryd.checked.prog (w.forCall tape i) .any w.heap.size f i ∧
      ((s.pre enc Tryd.checked.prog fn conds false (w.forCall tape i).memory i.args ∧ X (w.forCall tape i).memory i.args) ∧ sizedMet enc Tryd.checked.prog fn (OpenSpec.ofChange s) false (w.forCall tape i).memory i.args) ∧ Assume.holds {} Tryd.checked.prog (lone (Frame.enter Tryd.checked.prog f i.args .normal) [] (w.forCall tape i)))
    (contract : ∀ (W : World) (base : Nat) (args : Array Value) (ds gs : List (DataW H)) (before : List MemPlace),
      (∀ (j : Nat) t v, fn.params[j]? = some t → args[j]? = some v → Value.okWide Tryd.checked.prog W .any base t v) →
      DataW.Whole enc Tryd.checked.prog fn.params.toList s.vars false W args.toList ds gs before →
      (DataW.weightsEach Tryd.checked.prog (fn.params.toList ++ s.plain.varTypes Tryd.checked.prog) (ds ++ gs)).all (· ≤ reachBytes) = true → X W args → W.ShapedOpen Tryd.checked.prog →
      Calls Tryd.checked.prog f args W fun e W' => ∃ v, e = .returned v ∧ s.post enc Tryd.checked.prog fn false true false false W args v W') :
    ReturnsInHanded {} Tryd.checked os f .any (fun w args => (s.pre enc Tryd.checked.prog fn conds false w args ∧ X w args) ∧ sizedMet enc Tryd.checked.prog fn (OpenSpec.ofChange s) false w args) (s.post enc Tryd.checked.prog fn false true false false) := by
  refine returnsInHanded_of_calls own started noInit witness ?_
  intro w tape i _ hsh _ hok hpre _
  obtain ⟨_, _, _, fn', hfn', _, _, _, _, hval⟩ := hok
  have e : fn' = fn := Option.some.inj (hfn'.symm.trans hfn)
  subst e
  obtain ⟨⟨⟨ds, gs, before, hw, _⟩, hx⟩, hz⟩ := hpre
  have hw' := DataW.Whole.of_heap (w' := w.forCall tape i) (by rfl) hw
  refine (contract (w.forCall tape i) w.heap.size i.args ds gs before hval hw' (hz.weights hw) (hX _ _ _ (by rfl) hx) hsh).mono fun e W' ⟨v, he, hp⟩ => ?_
  subst he
  exact ChangeSpec.post_blind hp


theorem spot_none {w : World} {x : Addr} {v : Value} (h : w.cell? x = some v) : x = ⟨x.block, x.off, none⟩ := by
  obtain ⟨b, o, s⟩ := x
  cases s with
  | none => rfl
  | some y =>
    unfold World.cell? at h
    split at h
    · simp at h
    · cases h

set_option maxRecDepth 100000 in
/-- A slice of digits that came in. -/
theorem open_digits {H : Type} {enc : TypeId × Value → H} {W : World} {n : Nat} {v : Value} {y : DataW H × List MemPlace} (h : DataW.trod enc Tryd.prog W 0 (fun _ => true) true n 22 [v] = some y) :
    ∃ (a : Option Addr) (cap : Nat) (ds : List Nat), v = .slice a ds.length cap ∧ Dg .u32 W a ds ∧ Fit a ds.length cap ∧ ds.length ≤ 9223372036854775807 := by
  rcases open_ints Tryd.underlying22 Tryd.underlying81 (by kernel_rfl) h with ⟨hcs, _⟩ | ⟨x, l, c, zs, hcs, _, hl, hm, hz, _, hcell, hwz⟩
  · simp at hcs
    subst hcs
    exact ⟨none, 0, [], rfl, Dg.nil _ _, ⟨Nat.le_refl _, fun _ => rfl⟩, by simp⟩
  · simp at hcs
    subst hcs
    simp only [if_true] at hz
    have hlen : ((zs.take l).map Int.toNat).length = l := by simp; omega
    refine ⟨some x, c, (zs.take l).map Int.toNat, by rw [hlen], ?_, ⟨by rw [hlen]; exact hl, fun h => by cases h⟩, by rw [hlen]; unfold maxLen at hm; omega⟩
    intro hn
    rw [hlen] at hn
    have h0 := hcell 0 (by omega)
    have hx : x = ⟨x.block, x.off, none⟩ := spot_none (by simpa [Addr.add] using h0)
    refine ⟨x.block, x.off, by rw [← hx], fun i hi => ?_⟩
    rw [hlen] at hi
    have h1 := hcell i (by omega)
    rw [hx, add_plain] at h1
    rw [h1]
    have h2 : zs.getD i 0 = zs[i]'(by omega) := by simp [List.getD, List.getElem?_eq_getElem (show i < zs.length by omega)]
    have h3 : 0 ≤ zs[i]'(by omega) := by
      have := hwz _ (List.getElem_mem (show i < zs.length by omega))
      have hmin : IntKind.u32.min = 0 := rfl
      simp [Lit.wf, hmin] at this
      omega
    rw [h2]
    simp
    omega

set_option maxRecDepth 100000 in
/-- An integer that came in by value. -/
theorem open_raw {H : Type} {enc : TypeId × Value → H} {W : World} {b0 : Nat} {r : Reach} {v : Value} {d : DataW H} {p : List MemPlace} (hv : Value.okWide Tryd.prog W r b0 24 v) (h : DataW.Trod enc Tryd.prog W 0 (fun _ => true) true 24 v d p) :
    ∃ R : Raw, v = R.val ∧ RawOk W R := by
  obtain ⟨v0, v1, y0, y1, n, rfl, _, _, h0, h1⟩ := Joins.open_agg2 Tryd.underlying24 (by kernel_rfl) (by kernel_rfl) hv h
  obtain ⟨b, e0, _⟩ := DataW.trod_bool Tryd.underlying4 h0
  obtain ⟨a, c, ds, rfl, hd, hf, hl⟩ := open_digits h1
  simp at e0
  subst e0
  exact ⟨⟨b, a, c, ds⟩, rfl, ⟨hd, hf, hl⟩⟩

set_option maxRecDepth 100000 in
/-- A number that came in. -/
theorem open_i64 {H : Type} {enc : TypeId × Value → H} {W : World} {b0 : Nat} {r : Reach} {v : Value} {d : DataW H} {p : List MemPlace} (hv : Value.okWide Tryd.prog W r b0 2 v) (h : DataW.Trod enc Tryd.prog W 0 (fun _ => true) true 2 v d p) : ∃ m : Int, v = .int .i64 m ∧ -9223372036854775808 ≤ m ∧ m ≤ 9223372036854775807 := by
  obtain ⟨k, rfl, _, _, hk⟩ := Go.ChangeShapes.open_int Tryd.underlying2 hv h
  have hmin : IntKind.i64.min = -9223372036854775808 := rfl
  have hmax : IntKind.i64.max = 9223372036854775807 := rfl
  simp [Lit.wf, hmin, hmax] at hk
  exact ⟨_, rfl, hk.1, hk.2⟩

set_option maxRecDepth 100000 in
/-- A text that came in. -/
theorem open_str {H : Type} {enc : TypeId × Value → H} {W : World} {b0 : Nat} {r : Reach} {v : Value} {d : DataW H} {p : List MemPlace} (hv : Value.okWide Tryd.prog W r b0 9 v) (h : DataW.Trod enc Tryd.prog W 0 (fun _ => true) true 9 v d p) : ∃ s : List UInt8, v = .string ⟨s.toArray⟩ ∧ s.length ≤ 9223372036854775807 := by
  obtain ⟨s, rfl, _, _, ws⟩ := Go.ChangeMaps.open_string Tryd.underlying9 hv h
  refine ⟨s.data.toList, rfl, ?_⟩
  exact ws
end Go.Proofs.YthpibilefdmemaaDoor
