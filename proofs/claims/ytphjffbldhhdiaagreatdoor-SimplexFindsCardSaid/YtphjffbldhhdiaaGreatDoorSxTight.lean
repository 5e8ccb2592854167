/- Rows that values make tight: plain, and in memory. -/
import Derived.Test.YtphjffbldhhdiaaGreatDoorSxRowC
import Derived.Test.YtphjffbldhhdiaaGreatDoorSxFits
namespace Go.Proofs.YtphjffbldhhdiaaGreatDoor
open Go.RowKit

/-- Rows that just hold for these values; then, of each value, that it is at most so, and at least so. -/
def tiS (S : Sys) (V : Nat → Rat) (j : Nat) : Sys where
  n := S.n
  m := j
  A := fun i c => if i < S.m then S.A i c else if (i - S.m) / 2 = c then (if (i - S.m) % 2 = 0 then 1 else -1) else 0
  most := fun i => if i < S.m then sumR S.n (fun c => S.A i c * V c) else if (i - S.m) % 2 = 0 then V ((i - S.m) / 2) else -V ((i - S.m) / 2)
section
variable {S : Sys} {V x : Nat → Rat} {j : Nat}
theorem tiS_sum {i : Nat} (hi : i < S.m) : (sumR S.n fun c => (tiS S V j).A i c * x c) = sumR S.n fun c => S.A i c * x c :=
  sumR_congr fun c _ => by
    show (if i < S.m then S.A i c else _) * x c = _
    rw [if_pos hi]
theorem tiS_unit {i : Nat} (hi : ¬i < S.m) (hn : (i - S.m) / 2 < S.n) : (sumR S.n fun c => (tiS S V j).A i c * x c) = (if (i - S.m) % 2 = 0 then 1 else -1) * x ((i - S.m) / 2) := by
  rw [sumR_one hn (fun c _ hne => by
    show (if i < S.m then S.A i c else if (i - S.m) / 2 = c then (if (i - S.m) % 2 = 0 then 1 else -1) else 0) * x c = 0
    rw [if_neg hi, if_neg (fun e => hne e.symm)]; grind)]
  show (if i < S.m then _ else if (i - S.m) / 2 = (i - S.m) / 2 then _ else _) * _ = _
  rw [if_neg hi, if_pos rfl]
theorem tiS_fits (hj : j ≤ S.m + 2 * S.n) : (tiS S V j).Fits V := by
  intro i hi
  have hi' : i < j := hi
  show (sumR S.n fun c => (tiS S V j).A i c * V c) ≤ (if i < S.m then sumR S.n (fun c => S.A i c * V c) else if (i - S.m) % 2 = 0 then V ((i - S.m) / 2) else -V ((i - S.m) / 2))
  by_cases h : i < S.m
  · rw [tiS_sum h, if_pos h]
    exact Rat.le_refl
  · rw [tiS_unit h (by omega), if_neg h]
    split <;> grind
theorem tiS_only (h : (tiS S V (S.m + 2 * S.n)).Fits x) {k : Nat} (hk : k < S.n) : x k = V k := by
  have h1 := h (S.m + 2 * k) (by show S.m + 2 * k < S.m + 2 * S.n; omega)
  have h2 := h (S.m + 2 * k + 1) (by show S.m + 2 * k + 1 < S.m + 2 * S.n; omega)
  change (sumR S.n fun c => (tiS S V (S.m + 2 * S.n)).A (S.m + 2 * k) c * x c) ≤ (if S.m + 2 * k < S.m then _ else if (S.m + 2 * k - S.m) % 2 = 0 then V ((S.m + 2 * k - S.m) / 2) else -V ((S.m + 2 * k - S.m) / 2)) at h1
  change (sumR S.n fun c => (tiS S V (S.m + 2 * S.n)).A (S.m + 2 * k + 1) c * x c) ≤ (if S.m + 2 * k + 1 < S.m then _ else if (S.m + 2 * k + 1 - S.m) % 2 = 0 then V ((S.m + 2 * k + 1 - S.m) / 2) else -V ((S.m + 2 * k + 1 - S.m) / 2)) at h2
  have a1 : ¬S.m + 2 * k < S.m := by omega
  have a2 : (S.m + 2 * k - S.m) % 2 = 0 := by omega
  have a3 : (S.m + 2 * k - S.m) / 2 = k := by omega
  have b1 : ¬S.m + 2 * k + 1 < S.m := by omega
  have b2 : ¬(S.m + 2 * k + 1 - S.m) % 2 = 0 := by omega
  have b3 : (S.m + 2 * k + 1 - S.m) / 2 = k := by omega
  rw [tiS_unit a1 (by rw [a3]; exact hk), if_neg a1, if_pos a2, if_pos a2, a3] at h1
  rw [tiS_unit b1 (by rw [b3]; exact hk), if_neg b1, if_neg b2, if_neg b2, b3] at h2
  grind
theorem tiS_part (hn : S.n ≤ 6) (hA : ∀ i c, i < S.m → c < S.n → Qn 1 (S.A i c)) (hV : ∀ c, c < S.n → Qn 1 (V c)) {i c : Nat} (hi : i < S.m) (hc : c ≤ S.n) : Qn 19 (sumR c fun k => S.A i k * V k) := by
  have h := sumR_size sizesQ (k := 2) (f := fun k => S.A i k * V k) c (fun k hk => Qn.mul (hA i k hi (by omega)) (hV k (by omega)))
  exact Qn.mono h (by omega)
theorem tiS_A (hA : ∀ i c, i < S.m → c < S.n → Qn 1 (S.A i c)) (i c : Nat) (hc : c < S.n) : Qn 1 ((tiS S V j).A i c) := by
  show Qn 1 (if i < S.m then S.A i c else if (i - S.m) / 2 = c then (if (i - S.m) % 2 = 0 then 1 else -1) else 0)
  split
  · exact hA i c (by assumption) hc
  · split
    · split
      · exact Qn.one
      · exact Qn.neg Qn.one
    · exact Qn.zero
theorem tiS_most (hn : S.n ≤ 6) (hA : ∀ i c, i < S.m → c < S.n → Qn 1 (S.A i c)) (hV : ∀ c, c < S.n → Qn 1 (V c)) (i : Nat) (hi : i < S.m + 2 * S.n) : Qn 19 ((tiS S V j).most i) := by
  show Qn 19 (if i < S.m then sumR S.n (fun c => S.A i c * V c) else if (i - S.m) % 2 = 0 then V ((i - S.m) / 2) else -V ((i - S.m) / 2))
  split
  · exact tiS_part hn hA hV (by assumption) (Nat.le_refl _)
  · have := Qn.mono (hV ((i - S.m) / 2) (by omega)) (show 1 ≤ 19 by decide)
    split
    · exact this
    · exact Qn.neg this
theorem tiS_fair (hn : S.n ≤ 6) (hm : S.m ≤ 10) (hA : ∀ i c, i < S.m → c < S.n → Qn 1 (S.A i c)) (hV : ∀ c, c < S.n → Qn 1 (V c)) (hj : j ≤ S.m + 2 * S.n) : Fair (tiS S V j) 1 19 where
  n := by show S.n ≤ 8; omega
  m := by show j ≤ 64; omega
  sLe := by decide
  MLe := by decide
  A := fun i c _ hc => tiS_A hA i c hc
  most := fun i hi => by
    have hi' : i < j := hi
    exact tiS_most hn hA hV i (by omega)
end
theorem k19_le {n : Nat} (hn : n ≤ 8) : n * (szB 1 n + 19 + 1) + 19 + 1 ≤ 2000000 := by
  have h := sz1 hn
  have : n * (szB 1 n + 19 + 1) ≤ 8 * (szB 1 n + 19 + 1) := Nat.mul_le_mul_right _ hn
  omega

/-- The rows that lie in a block. -/
def RowsX (w : World) (g : Nat) (S : Sys) : Prop := ∀ i, i < S.m → ∃ ra rk, w.cell? ⟨g, i * 5, none⟩ = some (.slice ra S.n rk) ∧ Fit ra S.n rk ∧ (0 < S.n → ∃ rb ro, ra = some ⟨rb, ro, none⟩ ∧ rb ≠ g ∧ ∀ c, c < S.n → FAt w rb (ro + c * 4) (S.A i c)) ∧ FAt w g (i * 5 + 1) (S.most i)
/-- Rows that the call owns. -/
def RowsC (w : World) (N : Nat) (v : Value) (S : Sys) : Prop := ∃ xs, w.ownsRow N 43 5 v S.m xs ∧ (∀ g, v.ownBlock = some g → Calm w g) ∧ ∀ g, v.ownBlock = some g → RowsX w g S
theorem RowsX.v {w : World} {g : Nat} {S : Sys} (h : RowsX w g S) : RowsV w g 0 S := by
  intro i hi
  obtain ⟨ra, rk, h1, h2, h3, h4⟩ := h i hi
  refine ⟨ra, rk, by rw [Nat.zero_add]; exact h1, h2, fun hn => ?_, by rw [Nat.zero_add]; exact h4⟩
  obtain ⟨rb, ro, e, _, h5⟩ := h3 hn
  exact ⟨rb, ro, e, h5⟩
theorem RowsX.below {w w' : World} {g B : Nat} {S : Sys} (h : RowsX w g S) (hb : Below B w w') (hB : w.heap.size ≤ B) : RowsX w' g S := by
  intro i hi
  obtain ⟨ra, rk, h1, h2, h3, h4⟩ := h i hi
  refine ⟨ra, rk, cellB h1 hb hB, h2, fun hn => ?_, h4.below hb hB⟩
  obtain ⟨rb, ro, e, hne, h5⟩ := h3 hn
  exact ⟨rb, ro, e, hne, fun c hc => (h5 c hc).below hb hB⟩
section
variable {w w' : World} {N : Nat} {v v' : Value} {S S' : Sys}
theorem RowsC.below (h : RowsC w N v S) (hb : Below w.heap.size w w') : RowsC w' N v S := by
  obtain ⟨xs, h1, h2, h3⟩ := h
  exact ⟨xs, own_stays h1 (fun g hg => hb.block g (h1.lt g hg).2), fun g hg => (h2 g hg).below hb (h1.lt g hg).2, fun g hg => (h3 g hg).below hb (Nat.le_refl _)⟩
theorem RowsC.lt (h : RowsC w N v S) : ∀ g, v.ownBlock = some g → N ≤ g ∧ g < w.heap.size := by
  obtain ⟨xs, h1, _, _⟩ := h
  exact h1.lt
theorem RowsC.form (h : RowsC w N v S) : ∃ a k, v = .slice a S.m k ∧ ∃ b o, (0 < S.m → a = some ⟨b, o, none⟩) ∧ RowsV w b o S := by
  obtain ⟨xs, h1, _, h3⟩ := h
  rcases h1.2 with ⟨rfl, h0⟩ | ⟨g, cap, cur, rfl, hg, _, hle, _⟩
  · exact ⟨none, 0, by rw [h0], 0, 0, fun h => by omega, fun i hi => by omega⟩
  · exact ⟨some ⟨g, 0, none⟩, cap, rfl, g, 0, fun _ => rfl, (h3 g rfl).v⟩
/-- A row that comes to the others. -/
def NewRow (w : World) (v : Value) (S : Sys) (i : Nat) (news : List Value) (d : Nat) : Prop :=
  ∃ (ra : Option Addr) (rk : Nat) (n : Bool) (a : Option Addr) (l k : Nat) (m : Bool) (b : Option Addr) (i0 j0 : Nat), (∀ e u, [Value.slice ra S.n rk, .bool n, .slice a l k, .bool m, .slice b i0 j0][e]? = some u → news[d * 5 + e]? = some u) ∧ Fit ra S.n rk ∧ (0 < S.n → ∃ rb ro, ra = some ⟨rb, ro, none⟩ ∧ v.ownBlock ≠ some rb ∧ ∀ c, c < S.n → FAt w rb (ro + c * 4) (S.A (i + d) c)) ∧ FracV w (.agg #[.bool n, .slice a l k, .bool m, .slice b i0 j0]) (S.most (i + d))
theorem RowsC.grow {xs news : List Value} {k j : Nat} (hj : S.m = j) (h1 : w.ownsRow N 43 5 v j xs) (h2 : ∀ g, v.ownBlock = some g → Calm w g) (h3 : ∀ g, v.ownBlock = some g → RowsX w g S)
    (hn : S'.n = S.n) (hm : S'.m = j + k) (hA : ∀ i c, i < j → c < S.n → S'.A i c = S.A i c) (hM : ∀ i, i < j → S'.most i = S.most i)
    (hown : w'.ownsRow N 43 5 v' (j + k) (xs ++ news)) (hgrow : w.grownBy w' v.ownBlock) (hat : v'.ownBlock = v.ownBlock ∨ v'.ownBlock = some w.heap.size) (hcalm : ∀ g, v'.ownBlock = some g → Calm w' g)
    (hnew : ∀ d, d < k → NewRow w v S' j news d) : RowsC w' N v' S' := by
  refine ⟨xs ++ news, by rw [hm]; exact hown, hcalm, fun g' hg' i hi => ?_⟩
  have hxl : xs.length = j * 5 := h1.1
  have hcell := hown.cells hg'
  have hne' : ∀ rb, v.ownBlock ≠ some rb → rb < w.heap.size → rb ≠ g' := fun rb h1 h2 e => by
    subst e
    rcases hat with h | h
    · exact h1 (h.symm.trans hg')
    · rw [hg'] at h
      have := Option.some.inj h
      omega
  rcases Nat.lt_or_ge i j with hlt | hge
  · rcases h1.2 with ⟨_, h0⟩ | ⟨g, cap, cur, rfl, _, hgb, _, _, _, ht⟩
    · omega
    · obtain ⟨ra, rk, c0, rfit, rrow, rmost⟩ := h3 g rfl i (by omega)
      have hold : ∀ d u, d < 5 → w.cell? ⟨g, i * 5 + d, none⟩ = some u → w'.cell? ⟨g', i * 5 + d, none⟩ = some u := fun d u hd hu => by
        have hx : xs[i * 5 + d]? = some u := by
          rw [Blk.cell (t := 43) (cs := cur) hgb] at hu
          rw [← ht, List.getElem?_take_of_lt (by omega)]
          simpa using hu
        have := hcell (i * 5 + d) u (by rw [List.getElem?_append_left (by omega)]; exact hx)
        rw [add_plain, Nat.zero_add] at this
        exact this
      rw [hn]
      refine ⟨ra, rk, hold 0 _ (by decide) c0, rfit, fun h0 => ?_, ?_⟩
      · obtain ⟨rb, ro, e, hne, hF⟩ := rrow h0
        have hne2 : (Value.slice (some ⟨g, 0, none⟩) j cap).ownBlock ≠ some rb := fun e => hne (Option.some.inj e).symm
        refine ⟨rb, ro, e, hne' rb hne2 (hF 0 h0).lt, fun c hc => ?_⟩
        rw [hA i c hlt hc]
        exact (hF c hc).grown hgrow (fun e => hne2 e.symm) h2
      · rw [hM i hlt]
        exact rmost.moved hgrow h2 (fun d u hd hu => by
          have := hold (d + 1) u (by omega) (by rw [show i * 5 + (d + 1) = i * 5 + 1 + d from by omega]; exact hu)
          rwa [show i * 5 + (d + 1) = i * 5 + 1 + d from by omega] at this)
  · obtain ⟨d, rfl⟩ : ∃ d, i = j + d := ⟨i - j, by omega⟩
    rw [hm] at hi
    obtain ⟨ra, rk, n, a, l, kk, m, b, i0, j0, hc, hfit, hrow, hq⟩ := hnew d (by omega)
    have hcc : ∀ e u, e < 5 → [Value.slice ra S'.n rk, .bool n, .slice a l kk, .bool m, .slice b i0 j0][e]? = some u → w'.cell? ⟨g', (j + d) * 5 + e, none⟩ = some u := fun e u he hu => by
      have := hcell ((j + d) * 5 + e) u (by rw [List.getElem?_append_right (by omega), show (j + d) * 5 + e - xs.length = d * 5 + e from by omega]; exact hc e u hu)
      rw [add_plain, Nat.zero_add] at this
      exact this
    refine ⟨ra, rk, hcc 0 _ (by decide) rfl, hfit, fun h0 => ?_, ?_⟩
    · obtain ⟨rb, ro, e, hne, hF⟩ := hrow h0
      refine ⟨rb, ro, e, hne' rb hne (hF 0 h0).lt, fun c hc => ?_⟩
      exact (hF c hc).grown hgrow (fun e => hne e.symm) h2
    · exact ⟨n, a, l, kk, m, b, i0, j0, hcc 1 _ (by decide) rfl, hcc 2 _ (by decide) rfl, hcc 3 _ (by decide) rfl, hcc 4 _ (by decide) rfl, hq.grown hgrow h2⟩
end
/-- A box that holds a fraction. -/
def FBox (w : World) (g : Nat) (q : Rat) : Prop := ∃ (n : Bool) (a : Option Addr) (l k : Nat) (m : Bool) (b : Option Addr) (i j : Nat), Blk w g 39 #[.bool n, .slice a l k, .bool m, .slice b i j] ∧ FracV w (.agg #[.bool n, .slice a l k, .bool m, .slice b i j]) q
section
variable {w w' : World} {g B : Nat} {q p : Rat} {n m : Bool} {a b : Option Addr} {l k i j : Nat}
theorem FBox.lt (h : FBox w g q) : g < w.heap.size := by
  obtain ⟨_, _, _, _, _, _, _, _, h, _⟩ := h
  exact h.lt
theorem FBox.below (h : FBox w g q) (hb : Below B w w') (hB : w.heap.size ≤ B) : FBox w' g q := by
  obtain ⟨n, a, l, k, m, b, i, j, h1, h2⟩ := h
  exact ⟨n, a, l, k, m, b, i, j, h1.below hb (Nat.lt_of_lt_of_le h1.lt hB), h2.below hb hB⟩
theorem FBox.put (h : FBox w g p) (hq : FracV w (.agg #[.bool n, .slice a l k, .bool m, .slice b i j]) q) : FBox ((((w.setCell ⟨g, 0, none⟩ (.bool n)).setCell ⟨g, 1, none⟩ (.slice a l k)).setCell ⟨g, 2, none⟩ (.bool m)).setCell ⟨g, 3, none⟩ (.slice b i j)) g q := by
  obtain ⟨_, _, _, _, _, _, _, _, h1, _⟩ := h
  exact ⟨n, a, l, k, m, b, i, j, h1.four _ _ _ _, FrV.st4 hq h1 _ _ _ _⟩
end
/-- The zero fraction, as it comes in. -/
def zeroR : RFr := ⟨⟨false, none, 0, []⟩, ⟨false, none, 0, []⟩⟩
theorem zeroR_ok (w : World) : RFrOk w zeroR := ⟨⟨fun h => absurd h (Nat.not_lt_zero _), ⟨Nat.le_refl _, fun _ => rfl⟩, Nat.zero_le _⟩, ⟨fun h => absurd h (Nat.not_lt_zero _), ⟨Nat.le_refl _, fun _ => rfl⟩, Nat.zero_le _⟩⟩
theorem one_row {w : World} {g : Nat} {t : TypeId} {av : Option Addr} {cv : Nat} {vs : List RFr} (h : Blk w g t #[.slice av vs.length cv, .bool false, .slice none 0 0, .bool false, .slice none 0 0]) (hf : Fit av vs.length cv) (hl : ListAt w av vs) : RowsAt w (some ⟨g, 0, none⟩) [⟨av, cv, vs, zeroR⟩] := fun _ => by
  refine ⟨g, 0, rfl, fun i hi => ?_⟩
  have hi' : i < 1 := hi
  obtain rfl : i = 0 := by omega
  exact ⟨h.cell 0, hf, hl, h.cell 1, h.cell 2, h.cell 3, h.cell 4, zeroR_ok w⟩
/-- The values of fractions. -/
def valQ (vs : List RFr) (c : Nat) : Rat := (vs[c]?.map RFr.q).getD 0
theorem valQ_at {vs : List RFr} {c : Nat} (h : c < vs.length) : valQ vs c = vs[c].q := by unfold valQ; rw [List.getElem?_eq_getElem h]; rfl
theorem step_make_fracB {w : World} {ops : Array Oper} {o : Oper} {a : Act} {K : Act → World → Prop} {Q : Exit → Act → World → Prop} {E : Prop} (hgd : o.guard = none) (l c : Operand) (ho : o.op = Op.makeSlice 25 l c)
    (n : Nat) (hl : a.eval l = .int .i64 (n : Int)) (hc : a.eval c = .int .i64 (n : Int)) (hn : n ≤ 1000000)
    (h : ∀ w', ZRow w' w.heap.size n → Below w.heap.size w w' → K (a.put o.dst (.slice (some ⟨w.heap.size, 0, none⟩) n n)) w') : if Region.wanted o (yielded ops a.tmps) = true then Oper.wp Tryz.prog o a w K Q else E := by
  have hw : Region.wanted o (yielded ops a.tmps) = true := by simp [Region.wanted, hgd]
  rw [if_pos hw]
  obtain ⟨i0, hi0, hz0, hz1, hz2⟩ := info_parts infoF
  obtain ⟨w', hrun, r1, r2⟩ := run_make_full (P := Tryz.prog) w w.heap.size 25 39 i0 zeroF 4 Tryz.underlying25 hi0 hz0 hz1 .i64 .i64 n (by rw [hz2]; omega) (by unfold maxLen; omega) (Nat.le_refl _)
  have h3 := own_rowN r1
  rw [Array.toArray_toList] at h3
  unfold Oper.wp
  simp [execOp, ho, hl, hc, hrun, Result.andThen]
  exact h _ h3 (below_of_grown r2 (fun g h => by cases h) (Nat.le_refl _))
theorem news_ten (w : World) (a b c d e f g h i j : Value) (t : TypeId) : ∀ k u, [a, b, c, d, e, f, g, h, i, j][k]? = some u → (w.alloc (.cells #[a, b, c, d, e, f, g, h, i, j] t)).cell? ((⟨w.heap.size, 0, none⟩ : Addr).add k) = some u := World.news_of_block (heap_alloc_new w _)
/-- A row of zeros, and one fraction among them. -/
def URow (w : World) (g n c : Nat) (q : Rat) : Prop := ∀ i, i < n → FAt w g (i * 4) (if c = i then q else 0)
theorem RowsV.same {w : World} {b o : Nat} {S S' : Sys} (h : RowsV w b o S') (he : SameSys S S') : RowsV w b o S := by
  intro i hi
  obtain ⟨ra, rk, h1, h2, h3, h4⟩ := h i (by rw [he.m]; exact hi)
  rw [he.n] at h1 h2 h3
  rw [he.most i hi] at h4
  refine ⟨ra, rk, h1, h2, fun hn => ?_, h4⟩
  obtain ⟨rb, ro, e, h5⟩ := h3 hn
  exact ⟨rb, ro, e, fun c hc => by rw [← he.A i c hi hc]; exact h5 c hc⟩
/-- Rows, by values. -/
theorem rows_v {S : Sys} {a : Option Addr} {cap b o : Nat} (w : World) (hA : ∀ i c, i < S.m → c < S.n → Qn 1000000000 (S.A i c)) (hM : ∀ i, i < S.m → Qn 1000000000 (S.most i)) (hn : S.n ≤ 1000) (hm : S.m ≤ 1000) (ha : 0 < S.m → a = some ⟨b, o, none⟩) (hR : RowsV w b o S) :
    Calls Tryz.prog 9 #[.slice a S.m cap] w fun e w' => Below w.heap.size w w' ∧ ∃ g k, e = .returned (.slice (some ⟨g, 0, none⟩) S.m k) ∧ RowsV w' g 0 S := by
  obtain ⟨rs, r1, r2, r3, _, r5, r6⟩ := hR.raw2 (N := 1000000000) (by decide) hA hM hn
  have hat : RowsAt w a rs := fun h0 => by
    rw [r3] at h0
    rw [ha h0]
    exact r1 (by rw [r3]; exact h0)
  have hsm : SameSys S (sysOf S.n rs) := ⟨rfl, r3, r5, r6⟩
  have h := rows_any a cap rs w hat (by omega)
  rw [r3] at h
  refine h.mono ?_
  rintro e w' ⟨hb, g, k, _, rfl, hx⟩
  exact ⟨hb, g, k, by rw [r3], (hx.val2 r2).same hsm⟩
theorem row_calm (s : Option Addr) (c d : Nat) (n : Bool) (a : Option Addr) (l k : Nat) (m : Bool) (b : Option Addr) (i j : Nat) : ∀ u ∈ [Value.slice s c d, .bool n, .slice a l k, .bool m, .slice b i j], NoU u := fun u hu => by
  simp only [List.mem_cons, List.not_mem_nil, or_false] at hu
  rcases hu with rfl | rfl | rfl | rfl | rfl
  · exact NoU.slice _ _ _
  · exact NoU.bool _
  · exact NoU.slice _ _ _
  · exact NoU.bool _
  · exact NoU.slice _ _ _
theorem zeroRw_calm : ∀ u ∈ (Value.agg #[.slice none 0 0, .bool false, .slice none 0 0, .bool false, .slice none 0 0]).cells, NoU u := fun u hu => by
  have h : u ∈ [Value.slice none 0 0, .bool false, .slice none 0 0, .bool false, .slice none 0 0] := by simpa [Value.cells] using hu
  exact row_calm none 0 0 false none 0 0 false none 0 0 u h
theorem urow {w : World} {g n c : Nat} {q : Rat} {m p : Bool} {a b : Option Addr} {l k i j : Nat} (h : ZRow w g n) (hc : c < n) (hq : FracV w (.agg #[.bool m, .slice a l k, .bool p, .slice b i j]) q) : URow (put4 w g (c * 4) (.bool m) (.slice a l k) (.bool p) (.slice b i j)) g n c q := fun x hx => by
  by_cases e : c = x
  · subst e
    rw [if_pos rfl]
    exact FAt.put4_at hq (FAt.made h hc)
  · rw [if_neg e]
    exact FAt.put4 (FAt.made h hx) (FAt.made h hc) (.inr (by omega))
theorem URow.put4 {w : World} {g g' o n c : Nat} {q q' : Rat} {m p : Bool} {a b : Option Addr} {l k i j : Nat} (h : URow w g n c q) (h' : FAt w g' o q') (hne : g ≠ g') : URow (put4 w g' o (.bool m) (.slice a l k) (.bool p) (.slice b i j)) g n c q := fun x hx => FAt.put4 (h x hx) h' (.inl hne)
theorem ZRow.put4 {w : World} {g g' o n : Nat} {a b c d : Value} (h : ZRow w g n) (hne : g ≠ g') : ZRow (put4 w g' o a b c d) g n := by
  unfold Go.Proofs.YtphjffbldhhdiaaGreatDoor.put4
  exact (((Blk.far h hne _).far hne _).far hne _).far hne _
section
variable {S : Sys} {V : Nat → Rat} {j c : Nat}
theorem tiS_up (i : Nat) : (tiS S V j).A (S.m + 2 * c + 0) i = if c = i then 1 else 0 := by
  show (if S.m + 2 * c + 0 < S.m then S.A _ i else if (S.m + 2 * c + 0 - S.m) / 2 = i then (if (S.m + 2 * c + 0 - S.m) % 2 = 0 then 1 else -1) else 0) = _
  rw [if_neg (by omega), show (S.m + 2 * c + 0 - S.m) / 2 = c from by omega, if_pos (show (S.m + 2 * c + 0 - S.m) % 2 = 0 from by omega)]
theorem tiS_down (i : Nat) : (tiS S V j).A (S.m + 2 * c + 1) i = if c = i then -1 else 0 := by
  show (if S.m + 2 * c + 1 < S.m then S.A _ i else if (S.m + 2 * c + 1 - S.m) / 2 = i then (if (S.m + 2 * c + 1 - S.m) % 2 = 0 then 1 else -1) else 0) = _
  rw [if_neg (by omega), show (S.m + 2 * c + 1 - S.m) / 2 = c from by omega, if_neg (show ¬(S.m + 2 * c + 1 - S.m) % 2 = 0 from by omega)]
theorem tiS_mup : (tiS S V j).most (S.m + 2 * c + 0) = V c := by
  show (if S.m + 2 * c + 0 < S.m then _ else if (S.m + 2 * c + 0 - S.m) % 2 = 0 then V ((S.m + 2 * c + 0 - S.m) / 2) else _) = _
  rw [if_neg (by omega), if_pos (by omega), show (S.m + 2 * c + 0 - S.m) / 2 = c from by omega]
theorem tiS_mdown : (tiS S V j).most (S.m + 2 * c + 1) = -V c := by
  show (if S.m + 2 * c + 1 < S.m then _ else if (S.m + 2 * c + 1 - S.m) % 2 = 0 then _ else -V ((S.m + 2 * c + 1 - S.m) / 2)) = _
  rw [if_neg (by omega), if_neg (by omega), show (S.m + 2 * c + 1 - S.m) / 2 = c from by omega]
/-- Two rows more. -/
theorem two_rows {w : World} {v : Value} {gu gd : Nat} {ra rb : Option Addr} {n : Bool} {a : Option Addr} {l k : Nat} {m : Bool} {b : Option Addr} {i i' : Nat} {n2 : Bool} {a2 : Option Addr} {l2 k2 : Nat} {m2 : Bool} {b2 : Option Addr} {i2 j2 : Nat}
    (hra : ra = some ⟨gu, 0, none⟩) (hrb : rb = some ⟨gd, 0, none⟩) (nu : some gu ≠ v.ownBlock) (nd : some gd ≠ v.ownBlock) (hu : URow w gu S.n c 1) (hd : URow w gd S.n c (-1)) (h1 : FracV w (.agg #[.bool n, .slice a l k, .bool m, .slice b i i']) (V c)) (h2 : FracV w (.agg #[.bool n2, .slice a2 l2 k2, .bool m2, .slice b2 i2 j2]) (-V c)) :
    ∀ d, d < 2 → NewRow w v (tiS S V j) (S.m + 2 * c) [.slice ra S.n S.n, .bool n, .slice a l k, .bool m, .slice b i i', .slice rb S.n S.n, .bool n2, .slice a2 l2 k2, .bool m2, .slice b2 i2 j2] d := by
  subst hra hrb
  intro d hd'
  match d, hd' with
  | 0, _ =>
    refine ⟨some ⟨gu, 0, none⟩, S.n, n, a, l, k, m, b, i, i', fun e u he => ?_, ⟨Nat.le_refl _, fun h => by cases h⟩, fun _ => ⟨gu, 0, rfl, fun e => nu e.symm, fun x hx => ?_⟩, ?_⟩
    · rw [Nat.zero_mul, Nat.zero_add]
      match e, he with
      | 0, he => exact he
      | 1, he => exact he
      | 2, he => exact he
      | 3, he => exact he
      | 4, he => exact he
    · rw [tiS_up, Nat.zero_add]; exact hu x hx
    · rw [tiS_mup]; exact h1
  | 1, _ =>
    refine ⟨some ⟨gd, 0, none⟩, S.n, n2, a2, l2, k2, m2, b2, i2, j2, fun e u he => ?_, ⟨Nat.le_refl _, fun h => by cases h⟩, fun _ => ⟨gd, 0, rfl, fun e => nd e.symm, fun x hx => ?_⟩, ?_⟩
    · match e, he with
      | 0, he => exact he
      | 1, he => exact he
      | 2, he => exact he
      | 3, he => exact he
      | 4, he => exact he
    · rw [tiS_down, Nat.zero_add]; exact hd x hx
    · rw [tiS_mdown]; exact h2
end
theorem ten_calm (s : Option Addr) (c d : Nat) (n : Bool) (a : Option Addr) (l k : Nat) (m : Bool) (b : Option Addr) (i j : Nat) (s' : Option Addr) (c' d' : Nat) (n' : Bool) (a' : Option Addr) (l' k' : Nat) (m' : Bool) (b' : Option Addr) (i' j' : Nat) :
    ∀ u ∈ [Value.slice s c d, .bool n, .slice a l k, .bool m, .slice b i j, .slice s' c' d', .bool n', .slice a' l' k', .bool m', .slice b' i' j'], NoU u := fun u hu => by
  rcases List.mem_append.1 (show u ∈ [Value.slice s c d, .bool n, .slice a l k, .bool m, .slice b i j] ++ [.slice s' c' d', .bool n', .slice a' l' k', .bool m', .slice b' i' j'] from hu) with h | h
  · exact row_calm _ _ _ _ _ _ _ _ _ _ _ u h
  · exact row_calm _ _ _ _ _ _ _ _ _ _ _ u h
end Go.Proofs.YtphjffbldhhdiaaGreatDoor
