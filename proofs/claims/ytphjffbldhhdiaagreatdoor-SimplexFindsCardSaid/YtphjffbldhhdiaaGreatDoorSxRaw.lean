/- Rows as they came in; what they are by value. -/
import Derived.Test.YtphjffbldhhdiaaGreatDoorSxOwns
namespace Go.Proofs.YtphjffbldhhdiaaGreatDoor
open Go.RowKit

/-- May this fraction be? -/
def RFr.fr (R : RFr) : Bool := frightB R.up R.dn
def RFr.z (R : RFr) : Int := signZ R.up.neg (Go.Proofs.YtphjffbldhhdiaaGreatDoor.val BB R.up.ds)
def RFr.y (R : RFr) : Int := signZ R.dn.neg (Go.Proofs.YtphjffbldhhdiaaGreatDoor.val BB R.dn.ds)
/-- What it is. -/
def RFr.q (R : RFr) : Rat := Rat.divInt R.z (ben R.y)
def RFr.sz (R : RFr) (n : Nat) : Prop := R.up.ds.length ≤ n ∧ R.dn.ds.length ≤ n
theorem signZ_dg (z : Int) : signZ (decide (z < 0)) (val BB (dg BB z.natAbs)) = z := by
  rw [dg_val BB2]
  unfold signZ
  split
  · rename_i h
    have := of_decide_eq_true h
    omega
  · rename_i h
    have : ¬z < 0 := fun e => h (decide_eq_true e)
    omega
theorem RFr.spec {R : RFr} (h : R.fr = true) : R.up.neg = decide (R.q.num < 0) ∧ R.up.ds = dg BB R.q.num.natAbs ∧ R.dn.neg = decide (und R.q < 0) ∧ R.dn.ds = dg BB (und R.q).natAbs := by
  have hf : frightB R.up R.dn = true := h
  have hr1 : rightB R.up.neg R.up.ds = true := by
    unfold frightB at hf
    rw [Bool.and_eq_true] at hf; exact hf.1
  have hr2 : rightB R.dn.neg R.dn.ds = true := by
    unfold frightB at hf
    rw [Bool.and_eq_true, Bool.and_eq_true] at hf; exact hf.2.1
  obtain ⟨z, hz1, hz2⟩ := rightB_val hr1
  obtain ⟨y, hy1, hy2⟩ := rightB_val hr2
  obtain ⟨q, rfl, rfl⟩ := (frightB_iff z y hz1 hz2 hy1 hy2).1 hf
  have e : R.q = q := by
    unfold RFr.q RFr.z RFr.y
    rw [hz1, hz2, hy1, hy2, signZ_dg, signZ_dg, ben_und, Rat.num_divInt_den]
  rw [e]
  exact ⟨hz1, hz2, hy1, hy2⟩
theorem RFrOk.fracV {w : World} {R : RFr} (h : RFrOk w R) (hf : R.fr = true) : FracV w R.val R.q := by
  obtain ⟨h1, h2, h3, h4⟩ := RFr.spec hf
  have hu := h.up
  have hd := h.dn
  refine ⟨_, _, _, _, _, _, _, _, rfl, ⟨R.up.at_, R.up.cap, ?_, ?_, ?_⟩, ⟨R.dn.at_, R.dn.cap, ?_, ?_, ?_⟩⟩
  · rw [← h1, ← h2]
  · rw [← h2]; exact hu.fit
  · rw [← h2]; exact hu.dig
  · rw [← h3, ← h4]
  · rw [← h4]; exact hd.fit
  · rw [← h4]; exact hd.dig
theorem RFr.size {R : RFr} (hf : R.fr = true) {n : Nat} (h : R.sz n) (h1 : 1 ≤ n) : Qn n R.q := by
  obtain ⟨_, h2, _, h4⟩ := RFr.spec hf
  refine ⟨by unfold len; rw [← h2]; exact h.1, ?_⟩
  have h7 : len (und R.q) ≤ n := by unfold len; rw [← h4]; exact h.2
  unfold und at h7
  by_cases h8 : R.q.den = 1
  · rw [h8]; exact Nat.le_trans (dg_len BB2 (show ((1 : Nat) : Int).natAbs < BB ^ 1 by decide)) h1
  · rwa [if_neg h8] at h7
/-- A fraction of the program's is such a one. -/
theorem FracV.raw {w : World} {n m : Bool} {a b : Option Addr} {l k i j : Nat} {q : Rat} (h : FracV w (.agg #[.bool n, .slice a l k, .bool m, .slice b i j]) q) {N : Nat} (hq : Qn N q) (hN : N ≤ 9223372036854775807) :
    ∃ R : RFr, R.up.neg = n ∧ R.up.at_ = a ∧ R.up.ds.length = l ∧ R.up.cap = k ∧ R.dn.neg = m ∧ R.dn.at_ = b ∧ R.dn.ds.length = i ∧ R.dn.cap = j ∧ RFrOk w R ∧ R.fr = true ∧ R.q = q ∧ R.sz N := by
  obtain ⟨⟨a1, c1, e1, f1, d1⟩, ⟨a2, c2, e2, f2, d2⟩⟩ := h.halves
  simp only [Value.agg.injEq, Array.mk.injEq, List.cons.injEq, Value.bool.injEq, Value.slice.injEq, and_true] at e1 e2
  obtain ⟨rfl, rfl, rfl, rfl⟩ := e1
  obtain ⟨rfl, rfl, rfl, rfl⟩ := e2
  have l1 : (dg BB q.num.natAbs).length ≤ N := hq.1
  have l2 : (dg BB (und q).natAbs).length ≤ N := len_und hq
  refine ⟨⟨⟨decide (q.num < 0), a, k, dg BB q.num.natAbs⟩, ⟨decide (und q < 0), b, j, dg BB (und q).natAbs⟩⟩, rfl, rfl, rfl, rfl, rfl, rfl, rfl, rfl, ⟨⟨d1, f1, Nat.le_trans l1 hN⟩, ⟨d2, f2, Nat.le_trans l2 hN⟩⟩, ?_, ?_, ⟨l1, l2⟩⟩
  · exact (frightB_iff q.num (und q) rfl rfl rfl rfl).2 ⟨q, rfl, rfl⟩
  · unfold RFr.q RFr.z RFr.y
    simp only [signZ_dg, ben_und, Rat.num_divInt_den]

/-- A fraction's four cells, as it came in. -/
def RFrAt (w : World) (g o : Nat) (R : RFr) : Prop := w.cell? ⟨g, o, none⟩ = some (.bool R.up.neg) ∧ w.cell? ⟨g, o + 1, none⟩ = some (.slice R.up.at_ R.up.ds.length R.up.cap) ∧ w.cell? ⟨g, o + 2, none⟩ = some (.bool R.dn.neg) ∧ w.cell? ⟨g, o + 3, none⟩ = some (.slice R.dn.at_ R.dn.ds.length R.dn.cap) ∧ RFrOk w R
section
variable {w w' : World} {g o B : Nat} {R : RFr} {q : Rat}
theorem RFrAt.below (h : RFrAt w g o R) (hb : Below B w w') (hB : w.heap.size ≤ B) : RFrAt w' g o R :=
  ⟨cellB h.1 hb hB, cellB h.2.1 hb hB, cellB h.2.2.1 hb hB, cellB h.2.2.2.1 hb hB, h.2.2.2.2.below hb hB⟩
theorem RFrAt.fat (h : RFrAt w g o R) (hf : R.fr = true) : FAt w g o R.q :=
  ⟨_, _, _, _, _, _, _, _, h.1, h.2.1, h.2.2.1, h.2.2.2.1, h.2.2.2.2.fracV hf⟩
theorem FAt.raw (h : FAt w g o q) {N : Nat} (hq : Qn N q) (hN : N ≤ 9223372036854775807) : ∃ R, RFrAt w g o R ∧ R.fr = true ∧ R.q = q ∧ R.sz N := by
  obtain ⟨n, a, l, k, m, b, i, j, h0, h1, h2, h3, h4⟩ := h
  obtain ⟨R, rfl, rfl, rfl, rfl, rfl, rfl, rfl, rfl, h5, h6, h7, h8⟩ := h4.raw hq hN
  exact ⟨R, ⟨h0, h1, h2, h3, h5⟩, h6, h7, h8⟩
end

/-- A row of fractions, as it came in. -/
def ListAt (w : World) (a : Option Addr) (xs : List RFr) : Prop := 0 < xs.length → ∃ b o, a = some ⟨b, o, none⟩ ∧ ∀ i (h : i < xs.length), RFrAt w b (o + i * 4) xs[i]
/-- A row as it came in. -/
structure RRow where
  at_ : Option Addr
  cap : Nat
  xs : List RFr
  most : RFr
def RowAt (w : World) (g o : Nat) (r : RRow) : Prop := w.cell? ⟨g, o, none⟩ = some (.slice r.at_ r.xs.length r.cap) ∧ Fit r.at_ r.xs.length r.cap ∧ ListAt w r.at_ r.xs ∧ RFrAt w g (o + 1) r.most
/-- Rows as they came in. -/
def RowsAt (w : World) (a : Option Addr) (rs : List RRow) : Prop := 0 < rs.length → ∃ b o, a = some ⟨b, o, none⟩ ∧ ∀ i (h : i < rs.length), RowAt w b (o + i * 5) rs[i]
section
variable {w w' : World} {g o B : Nat} {a : Option Addr} {xs : List RFr} {r : RRow} {rs : List RRow}
theorem ListAt.below (h : ListAt w a xs) (hb : Below B w w') (hB : w.heap.size ≤ B) : ListAt w' a xs := fun h0 => by
  obtain ⟨b, o, e, h1⟩ := h h0
  exact ⟨b, o, e, fun i hi => (h1 i hi).below hb hB⟩
theorem RowAt.below (h : RowAt w g o r) (hb : Below B w w') (hB : w.heap.size ≤ B) : RowAt w' g o r :=
  ⟨cellB h.1 hb hB, h.2.1, h.2.2.1.below hb hB, h.2.2.2.below hb hB⟩
theorem RowsAt.below (h : RowsAt w a rs) (hb : Below B w w') (hB : w.heap.size ≤ B) : RowsAt w' a rs := fun h0 => by
  obtain ⟨b, o, e, h1⟩ := h h0
  exact ⟨b, o, e, fun i hi => (h1 i hi).below hb hB⟩
end
def RRow.right (U : Int) (r : RRow) : Bool := decide ((r.xs.length : Int) = U) && (r.most.fr && r.xs.all RFr.fr)
/-- May rows be? -/
def rightRows (U : Int) (rs : List RRow) : Bool := decide (0 ≤ U) && (decide (U ≤ 1000) && rs.all (RRow.right U))
/-- How great they are. -/
def RRow.sz (r : RRow) (n : Nat) : Prop := r.most.sz n ∧ ∀ R ∈ r.xs, R.sz n
/-- The rows' times and mosts. -/
def timesQ (rs : List RRow) (i c : Nat) : Rat := (((rs[i]?).bind (fun r => r.xs[c]?)).map RFr.q).getD 0
def mostQ (rs : List RRow) (i : Nat) : Rat := ((rs[i]?).map (fun r => r.most.q)).getD 0
def sysOf (n : Nat) (rs : List RRow) : Sys where
  n := n
  m := rs.length
  A := timesQ rs
  most := mostQ rs

/-- Rows by their values. -/
def RowsV (w : World) (b o : Nat) (S : Sys) : Prop := ∀ i, i < S.m → ∃ ra rk, w.cell? ⟨b, o + i * 5, none⟩ = some (.slice ra S.n rk) ∧ Fit ra S.n rk ∧ (0 < S.n → ∃ rb ro, ra = some ⟨rb, ro, none⟩ ∧ ∀ c, c < S.n → FAt w rb (ro + c * 4) (S.A i c)) ∧ FAt w b (o + i * 5 + 1) (S.most i)
theorem RowsV.below {w w' : World} {B b o : Nat} {S : Sys} (h : RowsV w b o S) (hb : Below B w w') (hB : w.heap.size ≤ B) : RowsV w' b o S := by
  intro i hi
  obtain ⟨ra, rk, h1, h2, h3, h4⟩ := h i hi
  refine ⟨ra, rk, cellB h1 hb hB, h2, fun hn => ?_, h4.below hb hB⟩
  obtain ⟨rb, ro, e, h5⟩ := h3 hn
  exact ⟨rb, ro, e, fun c hc => (h5 c hc).below hb hB⟩
theorem right_row {n : Nat} {rs : List RRow} (hr : rightRows n rs = true) {i : Nat} (hi : i < rs.length) : rs[i].xs.length = n ∧ rs[i].most.fr = true ∧ ∀ R ∈ rs[i].xs, R.fr = true := by
  unfold rightRows at hr
  simp only [Bool.and_eq_true, List.all_eq_true] at hr
  have h := hr.2.2 rs[i] (List.getElem_mem hi)
  unfold RRow.right at h
  simp only [Bool.and_eq_true, List.all_eq_true, decide_eq_true_eq] at h
  exact ⟨by omega, h.2.1, h.2.2⟩
theorem RowsAt.val {w : World} {a : Option Addr} {n : Nat} {rs : List RRow} (h : RowsAt w a rs) (hr : rightRows n rs = true) (h0 : 0 < rs.length) : ∃ b o, a = some ⟨b, o, none⟩ ∧ RowsV w b o (sysOf n rs) := by
  obtain ⟨b, o, e, h1⟩ := h h0
  refine ⟨b, o, e, fun i hi => ?_⟩
  have hi' : i < rs.length := hi
  obtain ⟨hl, hm, hx⟩ := right_row hr hi'
  obtain ⟨g1, g2, g3, g4⟩ := h1 i hi'
  rw [hl] at g1 g2
  refine ⟨_, _, g1, g2, fun hn => ?_, ?_⟩
  · obtain ⟨rb, ro, e2, h5⟩ := g3 (by rw [hl]; exact hn)
    refine ⟨rb, ro, e2, fun c hc => ?_⟩
    have hc' : c < rs[i].xs.length := by rw [hl]; exact hc
    have h6 := (h5 c hc').fat (hx _ (List.getElem_mem hc'))
    have e3 : (sysOf n rs).A i c = rs[i].xs[c].q := by
      show timesQ rs i c = _
      simp [timesQ, List.getElem?_eq_getElem hi', List.getElem?_eq_getElem hc']
    rw [e3]
    exact h6
  · have e3 : (sysOf n rs).most i = rs[i].most.q := by
      show mostQ rs i = _
      simp [mostQ, List.getElem?_eq_getElem hi']
    rw [e3]
    exact g4.fat hm
theorem exists_list {A : Type} {p : Nat → A → Prop} : ∀ n, (∀ i, i < n → ∃ x, p i x) → ∃ l : List A, l.length = n ∧ ∀ i (h : i < l.length), p i l[i]
  | 0, _ => ⟨[], rfl, fun i h => absurd h (Nat.not_lt_zero _)⟩
  | n + 1, h => by
    obtain ⟨l, h1, h2⟩ := exists_list n (fun i hi => h i (by omega))
    obtain ⟨x, hx⟩ := h n (by omega)
    refine ⟨l ++ [x], by simp [h1], fun i hi => ?_⟩
    rcases Nat.lt_or_ge i n with h3 | h3
    · rw [List.getElem_append_left (by omega)]; exact h2 i (by omega)
    · obtain rfl : i = n := by simp at hi; omega
      rw [List.getElem_append_right (by omega)]
      simpa [h1] using hx
/-- Rows of the program's are such ones. -/
theorem RowsV.raw2 {w : World} {b o : Nat} {S : Sys} (h : RowsV w b o S) {N : Nat} (hN : N ≤ 9223372036854775807) (hA : ∀ i c, i < S.m → c < S.n → Qn N (S.A i c)) (hM : ∀ i, i < S.m → Qn N (S.most i)) (hn : S.n ≤ 1000) :
    ∃ rs, RowsAt w (some ⟨b, o, none⟩) rs ∧ rightRows S.n rs = true ∧ rs.length = S.m ∧ (∀ r ∈ rs, r.sz N) ∧ (∀ i c, i < S.m → c < S.n → timesQ rs i c = S.A i c) ∧ ∀ i, i < S.m → mostQ rs i = S.most i := by
  have hx : ∀ i, i < S.m → ∃ r : RRow, RowAt w b (o + i * 5) r ∧ r.right S.n = true ∧ r.sz N ∧ r.xs.length = S.n ∧ (∀ c (h : c < r.xs.length), c < S.n → (r.xs[c]).q = S.A i c) ∧ r.most.q = S.most i := by
    intro i hi
    obtain ⟨ra, rk, h1, h2, h3, h4⟩ := h i hi
    obtain ⟨M, m1, m2, m3, m4⟩ := h4.raw (hM i hi) hN
    rcases Nat.eq_zero_or_pos S.n with h0 | h0
    · refine ⟨⟨ra, rk, [], M⟩, ⟨by simpa [h0] using h1, by simpa [h0] using h2, fun h => by simp at h, m1⟩, ?_, ⟨m4, fun R hR => by simp at hR⟩, by simp [h0], fun c hc => by simp at hc, m3⟩
      unfold RRow.right
      simp [h0, m2]
    · obtain ⟨rb, ro, rfl, h5⟩ := h3 h0
      obtain ⟨xs, x1, x2⟩ := exists_list (p := fun c R => RFrAt w rb (ro + c * 4) R ∧ R.fr = true ∧ R.sz N ∧ R.q = S.A i c) S.n (fun c hc => by
        obtain ⟨R, r1, r2, r3, r4⟩ := (h5 c hc).raw (hA i c hi hc) hN
        exact ⟨R, r1, r2, r4, r3⟩)
      refine ⟨⟨some ⟨rb, ro, none⟩, rk, xs, M⟩, ⟨by rw [x1]; exact h1, by rw [x1]; exact h2, fun _ => ⟨rb, ro, rfl, fun c hc => (x2 c hc).1⟩, m1⟩, ?_, ⟨m4, fun R hR => ?_⟩, x1, fun c hc _ => (x2 c hc).2.2.2, m3⟩
      · unfold RRow.right
        simp only [Bool.and_eq_true, List.all_eq_true, decide_eq_true_eq, x1, true_and]
        refine ⟨m2, fun R hR => ?_⟩
        obtain ⟨c, hc, rfl⟩ := List.mem_iff_getElem.1 hR
        exact (x2 c hc).2.1
      · obtain ⟨c, hc, rfl⟩ := List.mem_iff_getElem.1 hR
        exact (x2 c hc).2.2.1
  obtain ⟨rs, r1, r2⟩ := exists_list S.m hx
  refine ⟨rs, fun _ => ⟨b, o, rfl, fun i hi => (r2 i hi).1⟩, ?_, r1, fun r hr => ?_, fun i c hi hc => ?_, fun i hi => ?_⟩
  · unfold rightRows
    simp only [Bool.and_eq_true, List.all_eq_true, decide_eq_true_eq]
    refine ⟨by omega, by omega, fun r hr => ?_⟩
    obtain ⟨i, hi, rfl⟩ := List.mem_iff_getElem.1 hr
    exact (r2 i hi).2.1
  · obtain ⟨i, hi, rfl⟩ := List.mem_iff_getElem.1 hr
    exact (r2 i hi).2.2.1
  · have hi' : i < rs.length := by omega
    have h4 := (r2 i hi').2.2.2
    have hc' : c < rs[i].xs.length := by rw [h4.1]; exact hc
    have h5 := h4.2.1 c hc' hc
    simp [timesQ, List.getElem?_eq_getElem hi', List.getElem?_eq_getElem hc', h5]
  · have hi' : i < rs.length := by omega
    have h5 := (r2 i hi').2.2.2.2.2
    simp [mostQ, List.getElem?_eq_getElem hi', h5]
end Go.Proofs.YtphjffbldhhdiaaGreatDoor
