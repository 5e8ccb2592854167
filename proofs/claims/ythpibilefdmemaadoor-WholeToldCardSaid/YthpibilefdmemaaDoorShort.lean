/- whole.short, scaled: by their contracts. -/
import Derived.Test.YthpibilefdmemaaDoorMul
namespace Go.Proofs.YthpibilefdmemaaDoor
open Go.RowKit

/-- Division by one digit, from the last place down to place k. -/
structure ShSt (x : List Nat) (b k : Nat) (out : List Nat) (l : Nat) : Prop where
  len : out.length = x.length
  digs : Digs BB out
  lt : l < b
  val_ : val BB (x.drop k) = b * val BB (out.drop k) + l

theorem ShSt.start {x : List Nat} {b : Nat} (hb : 1 ≤ b) : ShSt x b x.length (List.replicate x.length 0) 0 := by
  refine ⟨by simp, fun d hd => ?_, by omega, by simp [val]⟩
  have := List.eq_of_mem_replicate hd
  rw [this, BB_eq]; omega
theorem ShSt.next {x : List Nat} {b i l q r : Nat} {out : List Nat} (h : ShSt x b (i + 1) out l) (hi : i < x.length) (hq : l * 1000000000 + x[i] = b * q + r) (hr : r < b) (hqB : q < 1000000000) : ShSt x b i (out.set i q) r := by
  have hio : i < out.length := by rw [h.len]; exact hi
  refine ⟨by simp [h.len], h.digs.set (by rw [BB_eq]; exact hqB), hr, ?_⟩
  have e1 : (out.set i q).drop i = q :: out.drop (i + 1) := by
    rw [List.drop_eq_getElem_cons (by simpa using hio), List.getElem_set_self, List.drop_set_of_lt (by omega)]
  rw [e1, List.drop_eq_getElem_cons hi]
  simp only [val]
  rw [h.val_, Nat.mul_add, Nat.mul_add]
  have h2 : BB * l + x[i] = b * q + r := by rw [BB_eq, Nat.mul_comm]; exact hq
  have h3 : BB * (b * val BB (out.drop (i + 1))) = b * (BB * val BB (out.drop (i + 1))) := by
    rw [← Nat.mul_assoc, Nat.mul_comm BB b, Nat.mul_assoc]
  omega

theorem cast_sum (l d : Nat) : ((l * 1000000000 + d : Nat) : Int) = (l : Int) * 1000000000 + (d : Int) := by omega
theorem cast_div (l d b : Nat) : ((l : Int) * 1000000000 + (d : Int)) / (b : Int) = (((l * 1000000000 + d) / b : Nat) : Int) := by rw [Int.natCast_ediv, cast_sum]
theorem cast_mod (l d b : Nat) : ((l : Int) * 1000000000 + (d : Int)) % (b : Int) = (((l * 1000000000 + d) % b : Nat) : Int) := by rw [Int.natCast_emod, cast_sum]

/-- What short leaves. -/
def ShPost (w : World) (x : List Nat) (b : Nat) (e : Ending) (w' : World) : Prop :=
  ∃ a cap out, e = .returned (.tuple #[.slice a (List.length out) cap, .int .u32 ((val BB x % b : Nat) : Int)]) ∧ Fit a out.length cap ∧ Dg .u32 w' a out ∧ Digs BB out ∧ val BB out = val BB x / b ∧ out.length = x.length ∧ Below w.heap.size w w'

set_option maxRecDepth 100000 in
set_option maxHeartbeats 1600000 in
theorem short_any (p : Option Addr) (cp : Nat) (X : List Nat) (b : Nat) (w : World) (hX : Dg .u32 w p X) (dX : Digs BB X) (hXn : X.length ≤ 1099511627776) (hb1 : 1 ≤ b) (hb9 : b ≤ 1000000000) :
    Calls Tryd.prog 81 #[.slice p X.length cp, .int .u64 (b : Int)] w (ShPost w X b) := by
  generalize hP : ShPost w X b = Post
  have HP := hide hP
  clear hP
  go_enter Tryd.func81, Tryd.ntmps81
  go_wp2_with (at_make; refine wpList_make_zero rfl _ _ rfl _ _ X.length rfl rfl rfl rfl (by omega) ?_)
  intro w1 hrow hb
  have hs0 := ShSt.start (x := X) hb1
  go_wp2_with fail
  go_loopg [7, 8] X.length (fun k l v wr => ∃ (out : List Nat) (ll : Nat), k ≤ X.length ∧ v = .int .i64 ((k : Int) - 1) ∧ l = .int .u64 (ll : Int) ∧ ShSt X b k out ll ∧ DRow .u32 81 wr w.heap.size out ∧ Below w.heap.size w wr)
  case atStart => exact ⟨_, 0, Nat.le_refl _, rfl, rfl, hs0, hrow, hb⟩
  case round =>
    obtain ⟨out, l, hk, rfl, rfl, hs, hD, hB⟩ := hrel
    clear hs0 hrow hb
    rcases gk with _ | i
    · have hgd := hD.dg
      have hl := hs.lt
      have hlen := hs.len
      have hv := hs.val_
      rw [List.drop_zero, List.drop_zero] at hv
      have HV : Hid (val BB out = val BB X / b ∧ val BB X % b = l) := hide (by
        rw [hv]
        exact ⟨by rw [Nat.mul_add_div (by omega), Nat.div_eq_of_lt hl, Nat.add_zero], by rw [Nat.mul_add_mod, Nat.mod_eq_of_lt hl]⟩)
      have HD := hide hs.digs
      clear hv hs
      rw [show (((0 : Nat) : Int) - 1) = -1 by omega]
      go_wp2_with fail
      rw [← HP.out]
      refine ⟨_, X.length, out, ?_, ?_, hgd, HD.out, HV.out.1, hlen, hB⟩
      · rw [HV.out.2, hlen]; rfl
      · exact ⟨by omega, fun h => by cases h⟩
    · have hi : i < X.length := by omega
      obtain ⟨b1, o1, rfl, hc1, hl1⟩ := hX.at hi
      replace hc1 := (hB.cell (p := ⟨b1, o1 + i, none⟩) hl1).trans hc1
      have hd9 := dX.at hi
      have hio : i < out.length := by rw [hs.len]; exact hi
      have hco := hD.cell hio
      have hfo := hD.frozen i
      have hl := hs.lt
      have HN := hide (fun (q r : Nat) => ShSt.next (q := q) (r := r) hs hi)
      have HDS := hide (fun (q : Nat) => hD.set i q)
      have HB := hide (fun (u : Value) => hB.setCell (p := ⟨w.heap.size, i, none⟩) (Nat.le_refl _) u)
      generalize X[i] = d at hc1 hd9 HN
      generalize out[i] = O at hco
      rw [BB_eq] at hd9
      clear hs hD
      obtain ⟨q, hq⟩ : ∃ q : Nat, q = (l * 1000000000 + d) / b := ⟨_, rfl⟩
      obtain ⟨r, hr⟩ : ∃ r : Nat, r = (l * 1000000000 + d) % b := ⟨_, rfl⟩
      have hdm := Nat.div_add_mod (l * 1000000000 + d) b
      have hrb : r < b := by rw [hr]; exact Nat.mod_lt _ (by omega)
      have hq9 : q < 1000000000 := by
        rw [hq]
        apply Nat.div_lt_of_lt_mul
        have : (l + 1) * 1000000000 ≤ b * 1000000000 := Nat.mul_le_mul_right _ (by omega)
        omega
      rw [← hq, ← hr] at hdm
      have HF : Hid (l * 1000000000 + d = b * q + r) := hide hdm.symm
      have hq1 : ((l : Int) * 1000000000 + (d : Int)) / (b : Int) = (q : Int) := by rw [hq]; exact cast_div l d b
      have hr1 : ((l : Int) * 1000000000 + (d : Int)) % (b : Int) = (r : Int) := by rw [hr]; exact cast_mod l d b
      clear hq hr hdm
      have hbb1 : (1 : Int) ≤ (b : Int) := by omega
      rw [show (((i + 1 : Nat) : Int) - 1) = (i : Int) by omega]
      go_wp2_with fail
      have hN := HN.out q r HF.out hrb hq9
      go_roundg i
      case measure => omega
      case rel => exact ⟨_, r, by omega, rfl, by rw [hr1], hN, HDS.out q, HB.out _⟩

/-- So many times a number, so many places of it. -/
structure ScSt (x : List Nat) (t n j : Nat) (out : List Nat) (c : Nat) : Prop where
  len : out.length = n
  digs : Digs BB out
  car : c < BB
  val_ : val BB out + BB ^ j * c = val BB (x.take j) * t
  zero : ∀ k, j ≤ k → k < n → out[k]? = some 0
theorem ScSt.start (x : List Nat) (t n : Nat) : ScSt x t n 0 (List.replicate n 0) 0 := by
  refine ⟨by simp, fun d hd => ?_, by rw [BB_eq]; omega, by simp [val, val_zeros], fun k _ hk => by simp [hk]⟩
  have := List.eq_of_mem_replicate hd
  rw [this, BB_eq]; omega
theorem ScSt.next {x : List Nat} {t n j c d q r : Nat} {out : List Nat} (h : ScSt x t n j out c) (hj : j < n) (hd : val BB (x.take (j + 1)) = val BB (x.take j) + BB ^ j * d) (hq : c + d * t = BB * q + r) (hr : r < BB) (hq1 : q < BB) : ScSt x t n (j + 1) (out.set j r) q := by
  have hjo : j < out.length := by rw [h.len]; exact hj
  refine ⟨by simp [h.len], h.digs.set hr, hq1, ?_, fun k hk hkn => by rw [List.getElem?_set_ne (by omega)]; exact h.zero k (by omega) hkn⟩
  have hz : out[j] = 0 := by
    have h1 := h.zero j (Nat.le_refl _) hj
    rw [List.getElem?_eq_getElem hjo] at h1
    exact Option.some.inj h1
  have hs := val_set (b := BB) out j r hjo
  rw [hz] at hs
  have hv := h.val_
  have e1 : BB ^ j * (c + d * t) = BB ^ (j + 1) * q + BB ^ j * r := by rw [hq, Nat.mul_add, Nat.pow_succ, Nat.mul_assoc]
  rw [hd, Nat.add_mul, Nat.mul_assoc]
  rw [Nat.mul_add] at e1
  omega

def ScPost (w : World) (x : List Nat) (t n : Nat) (e : Ending) (w' : World) : Prop :=
  ∃ (out : List Nat) (c : Nat), e = .returned (.slice (some ⟨w.heap.size, 0, none⟩) n n) ∧ out.length = n ∧ DRow .u32 81 w' w.heap.size out ∧ Digs BB out ∧ val BB out + BB ^ n * c = val BB (x.take n) * t ∧ Below w.heap.size w w'

theorem cast_mul (d t : Nat) : ((d : Int) * (t : Int)) = ((d * t : Nat) : Int) := by simp

set_option maxRecDepth 100000 in
set_option maxHeartbeats 1600000 in
theorem scaled_any (p : Option Addr) (cp : Nat) (X : List Nat) (t n : Nat) (w : World) (hX : Dg .u32 w p X) (dX : Digs BB X) (ht : t < 1000000000) (hn : n ≤ 2199023255552) :
    Calls Tryd.prog 85 #[.slice p X.length cp, .int .u64 (t : Int), .int .i64 (n : Int)] w (ScPost w X t n) := by
  generalize hP : ScPost w X t n = Post
  have HP := hide hP
  clear hP
  go_enter Tryd.func85, Tryd.ntmps85
  go_wp2_with (at_make; refine wpList_make_zero rfl _ _ rfl _ _ n rfl rfl rfl rfl (by omega) ?_)
  intro w1 hrow hb
  have hs0 := ScSt.start X t n
  go_wp2_with fail
  go_loopg [8, 14] n (fun k c v wr => ∃ (j : Nat) (out : List Nat) (cc : Nat), j + k = n ∧ v = .int .i64 (j : Int) ∧ c = .int .u64 (cc : Int) ∧ ScSt X t n j out cc ∧ DRow .u32 81 wr w.heap.size out ∧ Below w.heap.size w wr)
  case atStart => exact ⟨0, _, 0, by omega, rfl, rfl, hs0, hrow, hb⟩
  case round =>
    obtain ⟨j, out, cc, hjr, rfl, rfl, hs, hD, hB⟩ := hrel
    have HJ := hide hjr
    clear hs0 hrow hb hjr
    rcases Nat.lt_or_ge j n with hj | hj
    · have hjo : j < out.length := by rw [hs.len]; exact hj
      have hco := hD.cell hjo
      have hfo := hD.frozen j
      have hcar := hs.car
      rw [BB_eq] at hcar
      have HDS := hide (fun (q : Nat) => hD.set j q)
      have HB := hide (fun (u : Value) => hB.setCell (p := ⟨w.heap.size, j, none⟩) (Nat.le_refl _) u)
      generalize out[j] = O at hco
      clear hD
      rcases Nat.lt_or_ge j X.length with hk | hk
      · obtain ⟨b1, o1, rfl, hc1, hl1⟩ := hX.at hk
        replace hc1 := (hB.cell (p := ⟨b1, o1 + j, none⟩) hl1).trans hc1
        have hd9 := dX.at hk
        rw [BB_eq] at hd9
        have HN := hide (fun (q r : Nat) => ScSt.next (q := q) (r := r) hs hj (val_take_succ hk))
        generalize X[j] = d at hc1 hd9 HN
        clear hs
        have hdt2 : d * t ≤ 999999999 * 999999999 := Nat.mul_le_mul (by omega) (by omega)
        have hdt0 := cast_mul d t
        generalize d * t = D at hdt2 hdt0 HN
        obtain ⟨r, hr⟩ : ∃ r : Nat, r = (cc + D) % 1000000000 := ⟨_, rfl⟩
        obtain ⟨q, hq⟩ : ∃ q : Nat, q = (cc + D) / 1000000000 := ⟨_, rfl⟩
        have hr1 : ((cc : Int) + (D : Int)) % 1000000000 = (r : Int) := by omega
        have hq1 : ((cc : Int) + (D : Int)) / 1000000000 = (q : Int) := by omega
        have HF : Hid (cc + D = BB * q + r ∧ r < BB ∧ q < BB) := hide (by rw [BB_eq]; omega)
        have hr9 : r < 1000000000 := by omega
        clear hr hq
        go_wp2_with fail
        have hjr := HJ.out
        have hN := HN.out q r HF.out.1 HF.out.2.1 HF.out.2.2
        go_roundg (gk - 1)
        case measure => omega
        case rel => exact ⟨j + 1, _, q, by omega, by go_num, by first | rfl | rw [hq1], hN, HDS.out r, HB.out _⟩
      · have HN := hide (fun (q r : Nat) => ScSt.next (q := q) (r := r) (d := 0) hs hj (by rw [val_take_ge hk]; simp))
        clear hs
        obtain ⟨r, hr⟩ : ∃ r : Nat, r = cc % 1000000000 := ⟨_, rfl⟩
        obtain ⟨q, hq⟩ : ∃ q : Nat, q = cc / 1000000000 := ⟨_, rfl⟩
        have hr1 : (cc : Int) % 1000000000 = (r : Int) := by omega
        have hq1 : (cc : Int) / 1000000000 = (q : Int) := by omega
        have HF : Hid (cc + 0 * t = BB * q + r ∧ r < BB ∧ q < BB) := hide (by rw [BB_eq]; omega)
        have hr9 : r < 1000000000 := by omega
        clear hr hq
        go_wp2_with fail
        have hjr := HJ.out
        have hN := HN.out q r HF.out.1 HF.out.2.1 HF.out.2.2
        go_roundg (gk - 1)
        case measure => omega
        case rel => exact ⟨j + 1, _, q, by omega, by go_num, by first | rfl | rw [hq1], hN, HDS.out r, HB.out _⟩
    · obtain rfl : j = n := by have := HJ.out; omega
      go_wp2_with fail
      rw [← HP.out]
      exact ⟨out, cc, rfl, hs.len, hD, hs.digs, hs.val_, hB⟩
end Go.Proofs.YthpibilefdmemaaDoor
