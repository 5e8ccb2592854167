/- whole.takeAway, putBack: by their contracts. -/
import Derived.Test.YthpibilefdmemaaDoorShort
namespace Go.Proofs.YthpibilefdmemaaDoor
open Go.RowKit

/-- So many places of 't times v' are taken from a row, from place o on. -/
structure AwSt (U v : List Nat) (o t m j : Nat) (U' : List Nat) (c br : Nat) : Prop where
  len : U'.length = U.length
  digs : Digs BB U'
  car : c < BB
  bor : br ≤ 1
  val_ : val BB U + BB ^ (o + j) * (br + c) = val BB U' + BB ^ o * (val BB (v.take j) * t)
  rest : ∀ k, (k < o ∨ o + j ≤ k) → U'[k]? = U[k]?
  cv : BB ^ j * c ≤ val BB (v.take j) * t
theorem AwSt.start {U v : List Nat} {o t m : Nat} (h : Digs BB U) : AwSt U v o t m 0 U 0 0 := ⟨rfl, h, by rw [BB_eq]; omega, by omega, by simp [val], fun _ _ => rfl, by simp⟩
theorem AwSt.next {U v U' : List Nat} {o t m j c br e s c' br' r : Nat} (h : AwSt U v o t m j U' c br) (hk : o + j < U'.length) (he : val BB (v.take (j + 1)) = val BB (v.take j) + BB ^ j * e) (hC : c + e * t = BB * c' + s) (hc' : c' < BB) (hu : U'[o + j] + BB * br' = r + br + s) (hr : r < BB) (hb : br' ≤ 1) : AwSt U v o t m (j + 1) (U'.set (o + j) r) c' br' := by
  refine ⟨by simp [h.len], h.digs.set hr, hc', hb, ?_, fun k hkk => by rw [List.getElem?_set_ne (by omega)]; exact h.rest k (by omega), ?_⟩
  rotate_left
  · have h1 : BB ^ j * (c + e * t) = BB ^ (j + 1) * c' + BB ^ j * s := by rw [hC, Nat.mul_add, Nat.pow_succ, Nat.mul_assoc]
    have h2 := h.cv
    rw [he, Nat.add_mul, Nat.mul_assoc]
    rw [Nat.mul_add] at h1
    omega
  have hs := val_set (b := BB) U' (o + j) r hk
  have hv := h.val_
  have e1 : BB ^ o * ((val BB (v.take j) + BB ^ j * e) * t) = BB ^ o * (val BB (v.take j) * t) + BB ^ (o + j) * (e * t) := by
    rw [Nat.add_mul, Nat.mul_add, Nat.pow_add, Nat.mul_assoc, Nat.mul_assoc]
  rw [he, e1]
  have e2 : BB ^ (o + j) * (c + e * t) = BB ^ (o + (j + 1)) * c' + BB ^ (o + j) * s := by
    rw [hC, Nat.mul_add, ← Nat.add_assoc, Nat.pow_succ, Nat.mul_assoc]
  have e3 : BB ^ (o + j) * (U'[o + j] + BB * br') = BB ^ (o + j) * (r + br + s) := by rw [hu]
  have e4 : BB ^ (o + (j + 1)) * br' = BB ^ (o + j) * (BB * br') := by rw [← Nat.add_assoc, Nat.pow_succ, Nat.mul_assoc]
  simp only [Nat.mul_add] at e2 e3 hv ⊢
  omega

/-- A slice that lies apart from block G. -/
def Apart (q : Option Addr) (G : Nat) : Prop := ∀ b o, q = some ⟨b, o, none⟩ → b ≠ G

def AwPost (w : World) (G : Nat) (U v : List Nat) (o t m : Nat) (e : Ending) (w' : World) : Prop :=
  ∃ U' c br, e = .returned (.bool (decide (0 < br))) ∧ DRow .u32 81 w' G U' ∧ AwSt U v o t m m U' c br ∧ w.grownBy w' (some G) ∧ w'.heap.size = w.heap.size

theorem Dg.apart {k : IntKind} {w w' : World} {q : Option Addr} {ds : List Nat} {G : Nat} (h : Dg k w q ds) (ha : Apart q G) (hg : w.grownBy w' (some G)) : Dg k w' q ds := by
  intro hn
  obtain ⟨b, off, e, hc⟩ := h hn
  refine ⟨b, off, e, fun i hi => ?_⟩
  have hlt := World.block_lt_of_cell? w _ (hc i hi)
  have := hg.block b (by simpa using hlt) (by simp; exact ha b off e)
  exact (World.cell?_of_block (w := w) this).trans (hc i hi)

set_option maxRecDepth 100000 in
set_option maxHeartbeats 1600000 in
theorem takeAway_any (G o m cu : Nat) (q : Option Addr) (cq : Nat) (U V : List Nat) (t : Nat) (w : World) (hU : DRow .u32 81 w G U) (dU : Digs BB U) (hom : o + m ≤ U.length) (hUn : U.length ≤ 2199023255552) (hV : Dg .u32 w q V) (hap : Apart q G) (dV : Digs BB V) (ht : t < 1000000000) :
    Calls Tryd.prog 87 #[.slice (some ⟨G, o, none⟩) m cu, .slice q V.length cq, .int .u64 (t : Int)] w (AwPost w G U V o t m) := by
  generalize hP : AwPost w G U V o t m = Post
  have HP := hide hP
  clear hP
  have hs0 : AwSt U V o t m 0 U 0 0 := AwSt.start dU
  go_enter Tryd.func87, Tryd.ntmps87
  go_wp2_with fail
  go_loopg [7, 8, 13] m (fun k c b v wr => ∃ (j : Nat) (U' : List Nat) (cc br : Nat), j + k = m ∧ v = .int .i64 (j : Int) ∧ c = .int .u64 (cc : Int) ∧ b = .int .i64 (br : Int) ∧ AwSt U V o t m j U' cc br ∧ DRow .u32 81 wr G U' ∧ w.grownBy wr (some G) ∧ wr.heap.size = w.heap.size)
  case atStart => exact ⟨0, U, 0, 0, by omega, rfl, rfl, rfl, hs0, hU, only_refl _ _, rfl⟩
  case round =>
    obtain ⟨j, U', cc, br, hjr, rfl, rfl, rfl, hs, hD, hg, hsz⟩ := hrel
    have HJ := hide hjr
    have HSZ := hide hsz
    clear hs0 hU hjr hsz
    rcases Nat.lt_or_ge j m with hj | hj
    · have hjo : o + j < U'.length := by rw [hs.len]; omega
      have hco := hD.cell hjo
      have hfo := hD.frozen (o + j)
      have hcar := hs.car
      have hbor := hs.bor
      have ho9 := hs.digs.at hjo
      rw [BB_eq] at hcar ho9
      have HDS := hide (fun (x : Nat) => hD.set (o + j) x)
      have HG := hide (fun (u : Value) => only_setCell hg (p := ⟨G, o + j, none⟩) (.inl rfl) u)
      have HSS := hide (fun (u : Value) => (show (wr.setCell ⟨G, o + j, none⟩ u).heap.size = w.heap.size by simpa using HSZ.out))
      have hV' := hV.apart hap hg
      clear hD
      rcases Nat.lt_or_ge j V.length with hk | hk
      · obtain ⟨b1, o1, rfl, hc1, hl1⟩ := hV'.at hk
        have hd9 := dV.at hk
        rw [BB_eq] at hd9
        have HN := hide (fun (s c' br' r : Nat) => AwSt.next (s := s) (c' := c') (br' := br') (r := r) hs hjo (val_take_succ hk))
        generalize V[j] = d at hc1 hd9 HN
        generalize U'[o + j] = O at hco ho9 HN
        clear hs
        have hdt2 : d * t ≤ 999999999 * 999999999 := Nat.mul_le_mul (by omega) (by omega)
        have hdt0 := cast_mul d t
        generalize d * t = D at hdt2 hdt0 HN
        obtain ⟨s, hs⟩ : ∃ s : Nat, s = (cc + D) % 1000000000 := ⟨_, rfl⟩
        obtain ⟨c', hc'⟩ : ∃ c' : Nat, c' = (cc + D) / 1000000000 := ⟨_, rfl⟩
        have hr1 : ((cc : Int) + (D : Int)) % 1000000000 = (s : Int) := by omega
        have hq1 : ((cc : Int) + (D : Int)) / 1000000000 = (c' : Int) := by omega
        have HF : Hid (cc + D = BB * c' + s ∧ c' < BB) := hide (by rw [BB_eq]; omega)
        have hs9 : s < 1000000000 := by omega
        clear hs hc'
        by_cases hneg : (O : Int) - (br : Int) - (s : Int) < 0
        · obtain ⟨r, hr⟩ : ∃ r : Nat, (O : Int) - (br : Int) - (s : Int) + 1000000000 = (r : Int) := ⟨((O : Int) - (br : Int) - (s : Int) + 1000000000).toNat, by omega⟩
          have HF2 : Hid (O + BB * 1 = r + br + s ∧ r < BB ∧ 1 ≤ 1) := hide (by rw [BB_eq]; omega)
          have hr9 : r < 1000000000 := by omega
          go_wp2_with fail
          have hjr := HJ.out
          have hN := HN.out s c' 1 r HF.out.1 HF.out.2 HF2.out.1 HF2.out.2.1 HF2.out.2.2
          go_roundg (gk - 1)
          case measure => omega
          case rel => exact ⟨j + 1, _, c', 1, by omega, by go_num, by first | rfl | rw [hq1], rfl, hN, HDS.out r, HG.out _, HSS.out _⟩
        · obtain ⟨r, hr⟩ : ∃ r : Nat, (O : Int) - (br : Int) - (s : Int) = (r : Int) := ⟨((O : Int) - (br : Int) - (s : Int)).toNat, by omega⟩
          clear hneg
          have HF2 : Hid (O + BB * 0 = r + br + s ∧ r < BB ∧ 0 ≤ 1) := hide (by rw [BB_eq]; omega)
          have hr9 : r < 1000000000 := by omega
          go_wp2_with fail
          have hjr := HJ.out
          have hN := HN.out s c' 0 r HF.out.1 HF.out.2 HF2.out.1 HF2.out.2.1 HF2.out.2.2
          go_roundg (gk - 1)
          case measure => omega
          case rel => exact ⟨j + 1, _, c', 0, by omega, by go_num, by first | rfl | rw [hq1], rfl, hN, HDS.out r, HG.out _, HSS.out _⟩
      · have HN := hide (fun (s c' br' r : Nat) => AwSt.next (s := s) (c' := c') (br' := br') (r := r) (e := 0) hs hjo (by rw [val_take_ge hk]; simp))
        generalize U'[o + j] = O at hco ho9 HN
        clear hs
        obtain ⟨s, hs⟩ : ∃ s : Nat, s = cc % 1000000000 := ⟨_, rfl⟩
        obtain ⟨c', hc'⟩ : ∃ c' : Nat, c' = cc / 1000000000 := ⟨_, rfl⟩
        have hr1 : (cc : Int) % 1000000000 = (s : Int) := by omega
        have hq1 : (cc : Int) / 1000000000 = (c' : Int) := by omega
        have HF : Hid (cc + 0 * t = BB * c' + s ∧ c' < BB) := hide (by rw [BB_eq]; omega)
        have hs9 : s < 1000000000 := by omega
        clear hs hc'
        by_cases hneg : (O : Int) - (br : Int) - (s : Int) < 0
        · obtain ⟨r, hr⟩ : ∃ r : Nat, (O : Int) - (br : Int) - (s : Int) + 1000000000 = (r : Int) := ⟨((O : Int) - (br : Int) - (s : Int) + 1000000000).toNat, by omega⟩
          have HF2 : Hid (O + BB * 1 = r + br + s ∧ r < BB ∧ 1 ≤ 1) := hide (by rw [BB_eq]; omega)
          have hr9 : r < 1000000000 := by omega
          go_wp2_with fail
          have hjr := HJ.out
          have hN := HN.out s c' 1 r HF.out.1 HF.out.2 HF2.out.1 HF2.out.2.1 HF2.out.2.2
          go_roundg (gk - 1)
          case measure => omega
          case rel => exact ⟨j + 1, _, c', 1, by omega, by go_num, by first | rfl | rw [hq1], rfl, hN, HDS.out r, HG.out _, HSS.out _⟩
        · obtain ⟨r, hr⟩ : ∃ r : Nat, (O : Int) - (br : Int) - (s : Int) = (r : Int) := ⟨((O : Int) - (br : Int) - (s : Int)).toNat, by omega⟩
          clear hneg
          have HF2 : Hid (O + BB * 0 = r + br + s ∧ r < BB ∧ 0 ≤ 1) := hide (by rw [BB_eq]; omega)
          have hr9 : r < 1000000000 := by omega
          go_wp2_with fail
          have hjr := HJ.out
          have hN := HN.out s c' 0 r HF.out.1 HF.out.2 HF2.out.1 HF2.out.2.1 HF2.out.2.2
          go_roundg (gk - 1)
          case measure => omega
          case rel => exact ⟨j + 1, _, c', 0, by omega, by go_num, by first | rfl | rw [hq1], rfl, hN, HDS.out r, HG.out _, HSS.out _⟩
    · obtain rfl : j = m := by have := HJ.out; omega
      have hbor := hs.bor
      rcases Nat.eq_zero_or_pos br with h0 | h0
      · subst h0
        go_wp2_with fail
        rw [← HP.out]
        exact ⟨U', cc, 0, rfl, hD, hs, hg, HSZ.out⟩
      · obtain rfl : br = 1 := by omega
        go_wp2_with fail
        rw [← HP.out]
        exact ⟨U', cc, 1, rfl, hD, hs, hg, HSZ.out⟩

/-- So many places of v are put back to a row, from place o on. -/
structure BkSt (U v : List Nat) (o m j : Nat) (U' : List Nat) (c : Nat) : Prop where
  len : U'.length = U.length
  digs : Digs BB U'
  car : c ≤ 1
  val_ : val BB U + BB ^ o * val BB (v.take j) = val BB U' + BB ^ (o + j) * c
  rest : ∀ k, (k < o ∨ o + j ≤ k) → U'[k]? = U[k]?
theorem BkSt.start {U v : List Nat} {o m : Nat} (h : Digs BB U) : BkSt U v o m 0 U 0 := ⟨rfl, h, by omega, by simp [val], fun _ _ => rfl⟩
theorem BkSt.next {U v U' : List Nat} {o m j c e q r : Nat} (h : BkSt U v o m j U' c) (hk : o + j < U'.length) (he : val BB (v.take (j + 1)) = val BB (v.take j) + BB ^ j * e) (hq : U'[o + j] + c + e = BB * q + r) (hr : r < BB) (hq1 : q ≤ 1) : BkSt U v o m (j + 1) (U'.set (o + j) r) q := by
  refine ⟨by simp [h.len], h.digs.set hr, hq1, ?_, fun k hkk => by rw [List.getElem?_set_ne (by omega)]; exact h.rest k (by omega)⟩
  have hs := val_set (b := BB) U' (o + j) r hk
  have hv := h.val_
  have e1 : BB ^ o * (val BB (v.take j) + BB ^ j * e) = BB ^ o * val BB (v.take j) + BB ^ (o + j) * e := by rw [Nat.mul_add, Nat.pow_add, Nat.mul_assoc]
  have e2 : BB ^ (o + j) * (U'[o + j] + c + e) = BB ^ (o + (j + 1)) * q + BB ^ (o + j) * r := by
    rw [hq, Nat.mul_add, ← Nat.add_assoc, Nat.pow_succ, Nat.mul_assoc]
  rw [he, e1]
  simp only [Nat.mul_add] at e2 ⊢
  omega
def BkPost (w : World) (G : Nat) (U v : List Nat) (o m : Nat) (e : Ending) (w' : World) : Prop :=
  ∃ U' c, e = .returned (.tuple #[]) ∧ DRow .u32 81 w' G U' ∧ BkSt U v o m m U' c ∧ w.grownBy w' (some G) ∧ w'.heap.size = w.heap.size

set_option maxRecDepth 100000 in
set_option maxHeartbeats 1600000 in
theorem putBack_any (G o m cu : Nat) (q : Option Addr) (cq : Nat) (U V : List Nat) (w : World) (hU : DRow .u32 81 w G U) (dU : Digs BB U) (hom : o + m ≤ U.length) (hUn : U.length ≤ 2199023255552) (hV : Dg .u32 w q V) (hap : Apart q G) (dV : Digs BB V) :
    Calls Tryd.prog 88 #[.slice (some ⟨G, o, none⟩) m cu, .slice q V.length cq] w (BkPost w G U V o m) := by
  generalize hP : BkPost w G U V o m = Post
  have HP := hide hP
  clear hP
  have hs0 : BkSt U V o m 0 U 0 := BkSt.start dU
  go_enter Tryd.func88, Tryd.ntmps88
  go_wp2_with fail
  go_loopg [4, 9] m (fun k c v wr => ∃ (j : Nat) (U' : List Nat) (cc : Nat), j + k = m ∧ v = .int .i64 (j : Int) ∧ c = .int .u32 (cc : Int) ∧ BkSt U V o m j U' cc ∧ DRow .u32 81 wr G U' ∧ w.grownBy wr (some G) ∧ wr.heap.size = w.heap.size)
  case atStart => exact ⟨0, U, 0, by omega, rfl, rfl, hs0, hU, only_refl _ _, rfl⟩
  case round =>
    obtain ⟨j, U', cc, hjr, rfl, rfl, hs, hD, hg, hsz⟩ := hrel
    have HJ := hide hjr
    have HSZ := hide hsz
    clear hs0 hU hjr hsz
    rcases Nat.lt_or_ge j m with hj | hj
    · have hjo : o + j < U'.length := by rw [hs.len]; omega
      have hco := hD.cell hjo
      have hfo := hD.frozen (o + j)
      have hcar := hs.car
      have ho9 := hs.digs.at hjo
      rw [BB_eq] at ho9
      have HDS := hide (fun (x : Nat) => hD.set (o + j) x)
      have HG := hide (fun (u : Value) => only_setCell hg (p := ⟨G, o + j, none⟩) (.inl rfl) u)
      have HSS := hide (fun (u : Value) => (show (wr.setCell ⟨G, o + j, none⟩ u).heap.size = w.heap.size by simpa using HSZ.out))
      have hV' := hV.apart hap hg
      clear hD
      rcases Nat.lt_or_ge j V.length with hk | hk
      · obtain ⟨b1, o1, rfl, hc1, hl1⟩ := hV'.at hk
        have hd9 := dV.at hk
        rw [BB_eq] at hd9
        have HN := hide (fun (q r : Nat) => BkSt.next (q := q) (r := r) hs hjo (val_take_succ hk))
        generalize V[j] = d at hc1 hd9 HN
        generalize U'[o + j] = O at hco ho9 HN
        clear hs
        obtain ⟨r, hr⟩ : ∃ r : Nat, r = (O + cc + d) % 1000000000 := ⟨_, rfl⟩
        obtain ⟨q, hq⟩ : ∃ q : Nat, q = (O + cc + d) / 1000000000 := ⟨_, rfl⟩
        have hr1 : ((O : Int) + (cc : Int) + (d : Int)) % 1000000000 = (r : Int) := by omega
        have hq1 : ((O : Int) + (cc : Int) + (d : Int)) / 1000000000 = (q : Int) := by omega
        have HF : Hid (O + cc + d = BB * q + r ∧ r < BB ∧ q ≤ 1) := hide (by rw [BB_eq]; omega)
        have hr9 : r < 1000000000 := by omega
        clear hr hq
        go_wp2_with fail
        have hjr := HJ.out
        have hN := HN.out q r HF.out.1 HF.out.2.1 HF.out.2.2
        go_roundg (gk - 1)
        case measure => omega
        case rel => exact ⟨j + 1, _, q, by omega, by go_num, by first | rfl | rw [hq1], hN, HDS.out r, HG.out _, HSS.out _⟩
      · have HN := hide (fun (q r : Nat) => BkSt.next (q := q) (r := r) (e := 0) hs hjo (by rw [val_take_ge hk]; simp))
        generalize U'[o + j] = O at hco ho9 HN
        clear hs
        obtain ⟨r, hr⟩ : ∃ r : Nat, r = (O + cc) % 1000000000 := ⟨_, rfl⟩
        obtain ⟨q, hq⟩ : ∃ q : Nat, q = (O + cc) / 1000000000 := ⟨_, rfl⟩
        have hr1 : ((O : Int) + (cc : Int)) % 1000000000 = (r : Int) := by omega
        have hq1 : ((O : Int) + (cc : Int)) / 1000000000 = (q : Int) := by omega
        have HF : Hid (O + cc + 0 = BB * q + r ∧ r < BB ∧ q ≤ 1) := hide (by rw [BB_eq]; omega)
        have hr9 : r < 1000000000 := by omega
        clear hr hq
        go_wp2_with fail
        have hjr := HJ.out
        have hN := HN.out q r HF.out.1 HF.out.2.1 HF.out.2.2
        go_roundg (gk - 1)
        case measure => omega
        case rel => exact ⟨j + 1, _, q, by omega, by go_num, by first | rfl | rw [hq1], hN, HDS.out r, HG.out _, HSS.out _⟩
    · obtain rfl : j = m := by have := HJ.out; omega
      go_wp2_with fail
      go_end0
      rw [← HP.out]
      exact ⟨U', cc, rfl, hD, hs, hg, HSZ.out⟩
end Go.Proofs.YthpibilefdmemaaDoor
