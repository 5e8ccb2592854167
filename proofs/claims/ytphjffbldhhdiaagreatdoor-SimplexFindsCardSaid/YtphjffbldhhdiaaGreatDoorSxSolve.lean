/- simplex.Solve: by its contract. -/
import Derived.Test.YtphjffbldhhdiaaGreatDoorSxLay
import Derived.Test.YtphjffbldhhdiaaGreatDoorSxTurn
import Derived.Test.YtphjffbldhhdiaaGreatDoorSxCheck
namespace Go.Proofs.YtphjffbldhhdiaaGreatDoor
open Go.RowKit

/-- So many steps lead from the rows themselves to u. -/
def Reach (S : Sys) (i : Nat) (u : Sim) : Prop := ∃ t L C, Run S t L C i ∧ t 0 = S.first ∧ t i = u
theorem Reach.start (S : Sys) : Reach S 0 S.first := ⟨fun _ => S.first, fun _ => 0, fun _ => 0, ⟨S.first_inv, fun _ h => absurd h (Nat.not_lt_zero _)⟩, rfl, rfl⟩
theorem Reach.inv {S : Sys} {i : Nat} {u : Sim} (h : Reach S i u) : Inv S u := by
  obtain ⟨t, L, C, h1, _, h2⟩ := h
  exact h2 ▸ h1.inv i (Nat.le_refl _)
theorem Reach.step {S : Sys} {i l c : Nat} {u v : Sim} (h : Reach S i u) (hs : Step S u v l c) : Reach S (i + 1) v := by
  obtain ⟨t, L, C, h1, h0, h2⟩ := h
  refine ⟨put t (i + 1) v, put L i l, put C i c, ⟨?_, fun j hj => ?_⟩, ?_, put_at _ _ _⟩
  · rw [put_else _ _ (by omega)]
    exact h1.start
  · by_cases he : j = i
    · subst he
      rw [put_at, put_at, put_at, put_else _ _ (by omega), h2]
      exact hs
    · rw [put_else _ _ he, put_else _ _ he, put_else _ _ (by omega), put_else _ _ (by omega)]
      exact h1.step j (by omega)
  · rw [put_else _ _ (by omega), h0]
theorem Reach.lt {S : Sys} {i : Nat} {u : Sim} (h : Reach S i u) : i < (allB (S.n + S.m)).length := by
  obtain ⟨t, L, C, h1, _, _⟩ := h
  exact h1.ends
theorem Reach.last {S : Sys} {i : Nat} {u : Sim} (h : Reach S i u) (hd : (∀ l, l < S.m → ¬S.Over u l) ∨ ∃ l0, First S.m (S.Over u) u.told l0 ∧ ∀ c, c < S.n → ¬S.Free u l0 c) : Last S u := by
  obtain ⟨t, L, C, h1, h2, h3⟩ := h
  exact ⟨⟨t, L, C, i, h1, h2, h3⟩, hd⟩
theorem why_size {S : Sys} {s M : Nat} (hf : Fair S s M) {t : Sim} (h : Inv S t) {l : Nat} (hl : l < S.m) (i : Nat) : ∀ k, k ≤ S.n → Qn 10000000 (whyK S t l k i)
  | 0, _ => by
    show Qn _ (put _ _ _ _)
    unfold put
    split
    · exact Qn.mono Qn.one (by decide)
    · exact Qn.mono Qn.zero (by decide)
  | k + 1, hk => by
    have ih := why_size hf h hl i k (by omega)
    rw [whyK]
    split
    · exact ih
    · unfold put
      split
      · exact Qn.neg (hf.T h hl (by omega))
      · exact ih

/-- What Solve answers, where rows may be. -/
def AnsV (w w' : World) (S : Sys) (v : Value) : Prop := ∃ u, Last S u ∧
  (((∀ l, l < S.m → ¬S.Over u l) ∧ ∃ g, w.heap.size ≤ g ∧ v = .agg #[.slice (some ⟨g, 0, none⟩) S.n S.n, .slice none 0 0] ∧ ∀ i, i < S.n → FAt w' g (i * 4) (u.val i)) ∨
   (∃ l0, First S.m (S.Over u) u.told l0 ∧ (∀ c, c < S.n → ¬S.Free u l0 c) ∧ ∃ g, w.heap.size ≤ g ∧ v = .agg #[.slice none 0 0, .slice (some ⟨g, 0, none⟩) S.m S.m] ∧ ∀ i, i < S.m → FAt w' g (i * 4) (whyK S u l0 S.n i)))
def SolvePost (w : World) (U : Int) (rs : List RRow) (e : Ending) (w' : World) : Prop :=
  Below w.heap.size w w' ∧ ((rightRows U rs = false ∧ e = .returned (.tuple #[.agg #[.slice none 0 0, .slice none 0 0], .int .i64 1])) ∨
    (rightRows U rs = true ∧ ∃ v, e = .returned (.tuple #[v, .int .i64 0]) ∧ AnsV w w' (sysOf U.toNat rs) v))

theorem SolvePost.bad {w w' : World} {U : Int} {rs : List RRow} (hb : Below w.heap.size w w') (h : rightRows U rs = false) : SolvePost w U rs (.returned (.tuple #[.agg #[.slice none 0 0, .slice none 0 0], .int .i64 1])) w' := ⟨hb, .inl ⟨h, rfl⟩⟩
theorem right_bad {U : Int} {rs : List RRow} {j : Nat} (hj : j < rs.length) (h : (rs[j]).right U = false) : rightRows U rs = false := by
  unfold rightRows
  have : rs.all (RRow.right U) = false := List.all_eq_false.2 ⟨rs[j], List.getElem_mem hj, by rw [h]; decide⟩
  rw [this]
  simp

theorem FAt.set2 {w : World} {g o N : Nat} {q : Rat} {t : TypeId} {a b : Option Addr} {l k i j : Nat} (h : FAt w g o q) (hB : Blk w N t #[.slice a l k, .slice b i j]) (hne : N ≠ g) (x y : Value) : FAt ((w.setCell ⟨N, 0, none⟩ x).setCell ⟨N, 1, none⟩ y) g o q := by
  obtain ⟨c0, c1, -⟩ := hB.c2
  refine FAt.setX (h.setX (NoDig.of c0 (by intro z e; cases e)) (.inl hne) x) ?_ (.inl hne) y
  exact (NoDig.of c1 (by intro z e; cases e)).far (by simp) x
theorem all_right {U : Int} {rs : List RRow} (h0 : 0 ≤ U) (h1 : U ≤ 1000) (h : ∀ i (h : i < rs.length), (rs[i]).right U = true) : rightRows U rs = true := by
  unfold rightRows
  rw [decide_eq_true h0, decide_eq_true h1, Bool.true_and, Bool.true_and, List.all_eq_true]
  intro r hr
  obtain ⟨i, hi, rfl⟩ := List.mem_iff_getElem.1 hr
  exact h i hi
/-- How far Solve is. -/
def SolveS (K B : Nat) (w0 : World) (S : Sys) (L : Spots) (k : Nat) (wr : World) : Prop := ∃ i u, i + k = K ∧ Reach S i u ∧ TabV wr S u L ∧ (0 < S.n → 0 < S.m → TabM B wr S L) ∧ Below B w0 wr

set_option maxRecDepth 100000 in
set_option maxHeartbeats 6400000 in
theorem solve_any {s M : Nat} (U : Int) (a : Option Addr) (cap : Nat) (rs : List RRow) (w : World) (hx : RowsAt w a rs) (hs : ∀ r ∈ rs, r.sz 1000000000) (hl : rs.length ≤ 64) (hxl : ∀ r ∈ rs, r.xs.length ≤ 1000000) (hf : rightRows U rs = true → Fair (sysOf U.toNat rs) s M) :
    Calls Tryz.prog 8 #[.int .i64 U, .slice a rs.length cap] w (SolvePost w U rs) := by
  generalize hP : SolvePost w U rs = Post
  have HP := hide hP
  clear hP
  have HS := hide hs
  have HX := hide hx
  have HF := hide hf
  have HL := hide hxl
  clear hs hx hf hxl
  obtain ⟨N, hN⟩ : ∃ N, w.heap.size = N := ⟨_, rfl⟩
  obtain ⟨W, hW⟩ : ∃ W, w.alloc (.cells #[.slice none 0 0, .slice none 0 0] 27) = W := ⟨_, rfl⟩
  have b0 : Blk W w.heap.size 27 #[.slice none 0 0, .slice none 0 0] := by rw [← hW]; exact Blk.new w _ _
  have sb : Below w.heap.size w W := by rw [← hW]; exact (Below.refl w.heap.size w).alloc (Nat.le_refl _) _
  rw [hN] at b0 sb
  have HW := hide hW
  have HN := hide hN
  have hbad : ∀ w' : World, Below N w w' → rightRows U rs = false → Post (.returned (.tuple #[.agg #[.slice none 0 0, .slice none 0 0], .int .i64 1])) w' := fun w' hb h => by
    rw [← HP.out]
    exact SolvePost.bad (by rw [HN.out]; exact hb) h
  have HB := hide hbad
  clear hW hN hbad
  rcases Int.lt_or_le U 0 with hU | hU
  · have HR : Hid (rightRows U rs = false) := hide (by unfold rightRows; rw [decide_eq_false (by omega)]; rfl)
    have e1 : decide (U < 0) = true := decide_eq_true hU
    go_enter Tryz.func8, Tryz.ntmps8
    go_upto_region 1 with (fail)
    rw [HW.out, HN.out]
    clear HW
    obtain ⟨z0, z1, zf⟩ := b0.c2
    go_wp2_with fail
    refine bodyPost_ret (v := .tuple #[.agg #[.slice none 0 0, .slice none 0 0], .int .i64 1]) (by simp [results, Tryz.results8, go_sem, z0, z1]) rfl ?_
    exact HB.out _ ((sb.setCell (Nat.le_refl _) _).setCell (Nat.le_refl _) _) HR.out
  · rcases Int.lt_or_le 1000 U with hU2 | hU2
    · have HR : Hid (rightRows U rs = false) := hide (by unfold rightRows; rw [decide_eq_true hU, decide_eq_false (by omega)]; rfl)
      have e1 : decide (U < 0) = false := decide_eq_false (by omega)
      have e2 : decide (1000 < U) = true := decide_eq_true hU2
      have e3 : ¬U < 0 := by omega
      go_enter Tryz.func8, Tryz.ntmps8
      go_upto_region 1 with (fail)
      rw [HW.out, HN.out]
      clear HW
      obtain ⟨z0, z1, zf⟩ := b0.c2
      go_wp2_with fail
      refine bodyPost_ret (v := .tuple #[.agg #[.slice none 0 0, .slice none 0 0], .int .i64 1]) (by simp [results, Tryz.results8, go_sem, z0, z1]) rfl ?_
      exact HB.out _ ((sb.setCell (Nat.le_refl _) _).setCell (Nat.le_refl _) _) HR.out
    · obtain ⟨n, rfl⟩ : ∃ n : Nat, U = (n : Int) := ⟨U.toNat, by omega⟩
      have hn : n ≤ 1000 := by omega
      have e1 : decide ((n : Int) < 0) = false := decide_eq_false (by omega)
      have e2 : decide (1000 < (n : Int)) = false := decide_eq_false (by omega)
      have e3 : ¬(n : Int) < 0 := by omega
      have e4 : ¬1000 < (n : Int) := by omega
      go_enter Tryz.func8, Tryz.ntmps8
      go_upto_region 1 with (fail)
      rw [HW.out, HN.out]
      clear HW
      go_wp2_with fail
      go_loopg [22] rs.length (fun k v22 wr => ∃ j : Nat, j + k = rs.length ∧ v22 = .int .i64 (j : Int) ∧ Below W.heap.size W wr ∧ Hid (∀ i (h : i < rs.length), i < j → (rs[i]).right (n : Int) = true))
      case atStart => exact ⟨0, by omega, rfl, Below.refl _ _, hide (fun i _ h => absurd h (Nat.not_lt_zero _))⟩
      case round =>
        obtain ⟨j, hjk, rfl, hB, HJ⟩ := hrel
        have b1 := b0.below hB b0.lt
        have sb1 : Below N w wr := sb.trans (hB.mono (Nat.le_of_lt b0.lt))
        rcases Nat.eq_zero_or_pos gk with h0 | h0
        · subst h0
          obtain hj : j = rs.length := by omega
          subst hj
          have HR : Hid (rightRows n rs = true) := hide (all_right (by omega) (by omega) (fun i hi => HJ.out i hi hi))
          have hf := HF.out HR.out
          obtain ⟨S, hS⟩ : ∃ S, sysOf n rs = S := ⟨_, rfl⟩
          have hSn : S.n = n := by rw [← hS]; rfl
          have hSm : S.m = rs.length := by rw [← hS]; rfl
          have hTo : (n : Int).toNat = n := by omega
          rw [hTo, hS] at hf
          have hrv : 0 < S.m → ∃ b o, a = some ⟨b, o, none⟩ ∧ RowsV wr b o S := fun h0 => by
            rw [hSm] at h0
            obtain ⟨b, o, e, h⟩ := (HX.out.below sb1 (Nat.le_of_eq HN.out)).val HR.out h0
            exact ⟨b, o, e, by rw [← hS]; exact h⟩
          have HOK : Hid (∀ (w' : World) (v : Value), Below N w w' → AnsV w w' S v → Post (.returned (.tuple #[v, .int .i64 0])) w') := hide (fun w' v hb hv => by
            rw [← HP.out]
            exact ⟨by rw [HN.out]; exact hb, .inr ⟨HR.out, v, rfl, by rw [hTo, hS]; exact hv⟩⟩)
          have hlay : ∃ b o, (0 < S.m → a = some ⟨b, o, none⟩) ∧ RowsV wr b o S := by
            rcases Nat.eq_zero_or_pos S.m with h0 | h0
            · exact ⟨0, 0, fun h => by omega, fun i hi => by omega⟩
            · obtain ⟨b, o, e, h⟩ := hrv h0
              exact ⟨b, o, fun _ => e, h⟩
          obtain ⟨b, o, ha, hRV⟩ := hlay
          subst hSn
          have hl2 : S.m ≤ 64 := by omega
          have hc : Calls Tryz.prog 23 #[.int .i64 (S.n : Int), .slice a rs.length cap] wr (LayPost wr S) := by rw [← hSm]; exact lay_any wr hn (by omega) ha hRV
          replace hSm := hide hSm
          replace hTo := hide hTo
          have HSS := hide hS
          clear hS hrv ha hRV HJ hjk hB HF
          go_wp2_with fail
          refine hc.mono ?_
          rintro e w1 ⟨L, hav, hkv, rfl, hb1, hT, hM⟩
          clear hc
          have b2 := b1.below hb1 b1.lt
          have hNB : N < wr.heap.size := b1.lt
          obtain ⟨B, hBB⟩ : ∃ B, wr.heap.size = B := ⟨_, rfl⟩
          have HAV := hide hav
          have HKV := hide hkv
          rw [hBB] at hNB
          obtain ⟨KK, hKK⟩ : ∃ KK, (allB (S.n + S.m)).length = KK := ⟨_, rfl⟩
          have HKK := hide hKK
          have h0 : SolveS KK B w1 S L KK w1 := ⟨0, S.first, Nat.zero_add _, Reach.start S, hT, fun h1 h2 => by rw [← hBB]; exact hM h1 h2, Below.refl _ _⟩
          have sb2 : Below N w w1 := sb1.trans (hb1.mono (Nat.le_of_lt b1.lt))
          have hBw : B ≤ w1.heap.size := by rw [← hBB]; exact hb1.size
          clear hav hkv hM hT hBB b1 sb1 hKK
          go_wp2_with fail
          have hn1 := hf.n
          have hm1 := hf.m
          go_loopg [10] KK (fun k _ wr => SolveS KK B w1 S L k wr)
          case atStart => exact h0
          case round =>
            clear h0
            obtain ⟨i, u, hik, hre, hT, hM, hB⟩ := hrel
            have hi := hre.inv
            have b3 := b2.below hB hNB
            have sb3 : Below N w wr := sb2.trans (hB.mono (Nat.le_of_lt hNB))
            have hBr : B ≤ wr.heap.size := Nat.le_trans hBw hB.size
            go_wp2_with fail
            refine (over_any hf hi wr hT).mono ?_
            rintro e w2 ⟨hb2, ⟨l, hfi, rfl⟩ | ⟨hno, k, rfl⟩⟩
            · have b4 := b3.below hb2 b3.lt
              have sb4 : Below N w w2 := sb3.trans (hb2.mono (Nat.le_of_lt b3.lt))
              have hT2 := hT.below hb2
              have hB2 : Below B w1 w2 := hB.trans (hb2.mono hBr)
              have HFI := hide hfi
              have hl : l < S.m := hfi.1
              clear hfi
              go_wp2_with fail
              refine (way_any hf hi w2 hT2 hl).mono ?_
              rintro e w3 ⟨hb3, ⟨c, hfc, rfl⟩ | ⟨hno, k, rfl⟩⟩
              · have hc : c < S.n := hfc.1
                have hT3 := hT2.below hb3
                have hM3 := ((hM (by omega) (by omega)).below hT (by omega) (by omega) hb2).below hT2 (by omega) (by omega) hb3
                have hB3 : Below B w1 w3 := hB2.trans (hb3.mono (Nat.le_trans hBr hb2.size))
                have hst : Step S u (turnT S u l c) l c := ⟨HFI.out, hfc, rfl⟩
                have hre2 := hre.step hst
                have hgk : 0 < gk := by have := hre.lt; rw [HKK.out] at this; omega
                have ho : S.n ≤ u.told l := HFI.out.2.1.1
                have HRE := hide hre2
                clear hst hre2 hfc hM
                go_wp2_with fail
                refine (turn_any hf hi w3 hT3 hM3 hl hc ho).mono ?_
                rintro e w4 ⟨rfl, hT4, hM4, hb4⟩
                have hB4 := hB3.trans hb4
                go_wp2_with fail
                go_roundg (gk - 1)
                case measure => omega
                case rel => exact ⟨i + 1, _, by omega, HRE.out, hT4, fun _ _ => hM4, hB4⟩
              · have HNO := hide hno
                have b5 := b4.below hb3 b4.lt
                have sb5 : Below N w w3 := sb4.trans (hb3.mono (Nat.le_of_lt b4.lt))
                have hT3 := hT2.below hb3
                clear hno
                go_wp2_with fail
                refine (why_any hf hi w3 hT3 hl HFI.out.2.1 HNO.out).mono ?_
                rintro e w4 ⟨hb4, g, hg, rfl, hat⟩
                have b6 := b5.below hb4 b5.lt
                have sb6 : Below N w w4 := sb5.trans (hb4.mono (Nat.le_of_lt b5.lt))
                have HAT := hide hat
                clear hat
                go_wp2_with fail
                refine (own_any (n := S.m) (f := whyK S u l S.n) w4 (fun _ => rfl) HAT.out (by omega) (fun i _ => (why_size hf hi hl i S.n (Nat.le_refl _)).z (by decide))).mono ?_
                rintro e w5 ⟨hb5, g2, hg2, rfl, hat2⟩
                have b7 := b6.below hb5 b6.lt
                have sb7 : Below N w w5 := sb6.trans (hb5.mono (Nat.le_of_lt b6.lt))
                have HAT2 := hide hat2
                have hne : N ≠ g2 := by have := b6.lt; omega
                have hNg2 : N ≤ g2 := by have := b6.lt; omega
                obtain ⟨z0, z1, zf⟩ := b7.c2
                clear hat2
                go_wp2_with fail
                refine bodyPost_ret (v := .tuple #[.agg #[.slice none 0 0, .slice (some ⟨g2, 0, none⟩) S.m S.m], .int .i64 0]) (by simp [results, Tryz.results8, go_sem, z0, z1]) rfl ?_
                refine HOK.out _ _ ((sb7.setCell (Nat.le_refl _) _).setCell (Nat.le_refl _) _) ⟨u, hre.last (.inr ⟨l, HFI.out, HNO.out⟩), .inr ⟨l, HFI.out, HNO.out, g2, by rw [HN.out]; exact hNg2, rfl, fun i hi => ?_⟩⟩
                exact FAt.set2 (HAT2.out i hi) b7 hne _ _
            · have HNO := hide hno
              have b4 := b3.below hb2 b3.lt
              have sb4 : Below N w w2 := sb3.trans (hb2.mono (Nat.le_of_lt b3.lt))
              have hT2 := hT.below hb2
              have k2 := hT2.c2
              rw [HAV.out, HKV.out] at k2
              have ek : (S.n : Int) ≤ (S.n : Int) + (S.m : Int) := by omega
              have ek2 : S.n ≤ S.n + S.m := by omega
              clear hno
              go_wp2_with fail
              refine (own_any (n := S.n) (f := u.val) (g := L.gv) w2 (fun _ => rfl) (fun i hi => hT2.val i (by omega)) (by omega) (fun i hi' => (hf.val hi (by omega)).z (by decide))).mono ?_
              rintro e w5 ⟨hb5, g2, hg2, rfl, hat2⟩
              have b7 := b4.below hb5 b4.lt
              have sb7 : Below N w w5 := sb4.trans (hb5.mono (Nat.le_of_lt b4.lt))
              have HAT2 := hide hat2
              have hne : N ≠ g2 := by have := b4.lt; omega
              have hNg2 : N ≤ g2 := by have := b4.lt; omega
              obtain ⟨z0, z1, zf⟩ := b7.c2
              clear hat2 k2
              go_wp2_with fail
              refine bodyPost_ret (v := .tuple #[.agg #[.slice (some ⟨g2, 0, none⟩) S.n S.n, .slice none 0 0], .int .i64 0]) (by simp [results, Tryz.results8, go_sem, z0, z1]) rfl ?_
              refine HOK.out _ _ ((sb7.setCell (Nat.le_refl _) _).setCell (Nat.le_refl _) _) ⟨u, hre.last (.inl HNO.out), .inl ⟨HNO.out, g2, by rw [HN.out]; exact hNg2, rfl, fun i hi => ?_⟩⟩
              exact FAt.set2 (HAT2.out i hi) b7 hne _ _
        · have hj : j < rs.length := by omega
          have ej : (j : Int) < (rs.length : Int) := by omega
          obtain ⟨b, o, rfl, hr⟩ := HX.out (by omega)
          obtain ⟨r0, rfit, rcs, m0, m1, m2, m3, mok⟩ := (hr j hj).below sb1 (Nat.le_of_eq HN.out)
          have hsz := HS.out rs[j] (List.getElem_mem hj)
          have hln := HL.out rs[j] (List.getElem_mem hj)
          have HBD : Hid (∀ w' : World, Below N w w' → (rs[j]).right n = false → Post (.returned (.tuple #[.agg #[.slice none 0 0, .slice none 0 0], .int .i64 1])) w') := hide (fun w' hb h => HB.out w' hb (right_bad hj h))
          have HJ2 : Hid ((rs[j]).right n = true → ∀ i (h : i < rs.length), i < j + 1 → (rs[i]).right (n : Int) = true) := hide (fun h i hi hlt => by
            by_cases he : i = j
            · subst he; exact h
            · exact HJ.out i hi (by omega))
          obtain ⟨r, hrr⟩ : ∃ r, rs[j] = r := ⟨_, rfl⟩
          rw [hrr] at r0 rfit rcs m0 m1 m2 m3 mok hsz hln HBD HJ2
          replace hr := hide hr
          clear hrr HJ
          obtain ⟨W2, hW2⟩ : ∃ W2, wr.alloc (.cells #[.slice r.at_ r.xs.length r.cap, .bool r.most.up.neg, .slice r.most.up.at_ r.most.up.ds.length r.most.up.cap, .bool r.most.dn.neg, .slice r.most.dn.at_ r.most.dn.ds.length r.most.dn.cap] 43) = W2 := ⟨_, rfl⟩
          have bx : Blk W2 wr.heap.size 43 #[.slice r.at_ r.xs.length r.cap, .bool r.most.up.neg, .slice r.most.up.at_ r.most.up.ds.length r.most.up.cap, .bool r.most.dn.neg, .slice r.most.dn.at_ r.most.dn.ds.length r.most.dn.cap] := by rw [← hW2]; exact Blk.new _ _ _
          have sb2 : Below wr.heap.size wr W2 := by rw [← hW2]; exact (Below.refl _ _).alloc (Nat.le_refl _) _
          obtain ⟨gx, hgx⟩ : ∃ gx, wr.heap.size = gx := ⟨_, rfl⟩
          have hNg : N < wr.heap.size := b1.lt
          have b2 := b1.below sb2 b1.lt
          have sbN : Below N w W2 := sb1.trans (sb2.mono (Nat.le_of_lt hNg))
          have sbW : Below W.heap.size W W2 := hB.trans (sb2.mono hB.size)
          replace rcs := rcs.below sb2 (Nat.le_refl _)
          replace mok := mok.below sb2 (Nat.le_refl _)
          rw [hgx] at bx
          have HW2 := hide hW2
          have HGX := hide hgx
          clear hW2 hgx sb2 hB sb1 b1 hNg
          go_upto_region 7 with (fail)
          rw [HW2.out, HGX.out]
          clear HW2 HGX r0 m0 m1 m2 m3
          have x0 : W2.cell? ⟨gx, 0, none⟩ = some (.slice r.at_ r.xs.length r.cap) := bx.cell 0
          have x1 : W2.cell? ⟨gx, 1, none⟩ = some (.bool r.most.up.neg) := bx.cell 1
          have x2 : W2.cell? ⟨gx, 2, none⟩ = some (.slice r.most.up.at_ r.most.up.ds.length r.most.up.cap) := bx.cell 2
          have x3 : W2.cell? ⟨gx, 3, none⟩ = some (.bool r.most.dn.neg) := bx.cell 3
          have x4 : W2.cell? ⟨gx, 4, none⟩ = some (.slice r.most.dn.at_ r.most.dn.ds.length r.most.dn.cap) := bx.cell 4
          by_cases hlen : r.xs.length = n
          · have e5 : ((r.xs.length : Int) != (n : Int)) = false := by simp [hlen]
            have hlx : r.xs.length ≤ 1000 := by omega
            replace hlen := hide hlen
            cases hf : r.most.fr with
            | false =>
              have hr2 : (!r.most.fr) = true := by rw [hf]; rfl
              have HE : Hid (r.right n = false) := hide (by unfold RRow.right; rw [hf, Bool.false_and, Bool.and_false])
              clear hf
              go_wp2_with fail
              refine (wrong_any r.most W2 mok hsz.1 hr2).mono ?_
              rintro e w2 ⟨rfl, hb2⟩
              have b3 := b2.below hb2 b2.lt
              have sbN2 := sbN.trans (hb2.mono (Nat.le_of_lt b2.lt))
              obtain ⟨z0, z1, zf⟩ := b3.c2
              clear hr2 x0 x1 x2 x3 x4
              go_wp2_with fail
              refine bodyPost_ret (v := .tuple #[.agg #[.slice none 0 0, .slice none 0 0], .int .i64 1]) (by simp [results, Tryz.results8, go_sem, z0, z1]) rfl ?_
              exact HBD.out _ ((sbN2.setCell (Nat.le_refl _) _).setCell (Nat.le_refl _) _) HE.out
            | true =>
              have hr2 : (!r.most.fr) = false := by rw [hf]; rfl
              have HFM := hide hf
              clear hf
              go_wp2_with fail
              refine (wrong_any r.most W2 mok hsz.1 hr2).mono ?_
              rintro e w2 ⟨rfl, hb2⟩
              have b3 := b2.below hb2 b2.lt
              have sbN2 := sbN.trans (hb2.mono (Nat.le_of_lt b2.lt))
              have sbW2 := sbW.trans (hb2.mono sbW.size)
              have y0 := cellB x0 hb2 (Nat.le_refl _)
              replace rcs := rcs.below hb2 (Nat.le_refl _)
              clear hr2 x0 x1 x2 x3 x4 b2 sbN sbW
              cases hall : r.xs.all RFr.fr with
              | false =>
                have hr3 : (!r.xs.all RFr.fr) = true := by rw [hall]; rfl
                have HE : Hid (r.right n = false) := hide (by unfold RRow.right; rw [hall, Bool.and_false, Bool.and_false])
                clear hall
                go_wp2_with fail
                refine (contains_any r.at_ r.cap r.xs w2 rcs hsz.2 hlx hr3).mono ?_
                rintro e w3 ⟨rfl, hb3⟩
                have b4 := b3.below hb3 b3.lt
                have sbN3 := sbN2.trans (hb3.mono (Nat.le_of_lt b3.lt))
                obtain ⟨z0, z1, zf⟩ := b4.c2
                clear hr3 y0
                go_wp2_with fail
                refine bodyPost_ret (v := .tuple #[.agg #[.slice none 0 0, .slice none 0 0], .int .i64 1]) (by simp [results, Tryz.results8, go_sem, z0, z1]) rfl ?_
                exact HBD.out _ ((sbN3.setCell (Nat.le_refl _) _).setCell (Nat.le_refl _) _) HE.out
              | true =>
                have hr3 : (!r.xs.all RFr.fr) = false := by rw [hall]; rfl
                have HE : Hid (r.right n = true) := hide (by unfold RRow.right; rw [hall, HFM.out, decide_eq_true (by have := hlen.out; omega)]; rfl)
                clear hall
                go_wp2_with fail
                refine (contains_any r.at_ r.cap r.xs w2 rcs hsz.2 hlx hr3).mono ?_
                rintro e w3 ⟨rfl, hb3⟩
                have sbW3 := sbW2.trans (hb3.mono sbW2.size)
                clear hr3 y0
                go_wp2_with fail
                go_roundg (gk - 1)
                case measure => omega
                case rel => exact ⟨j + 1, by omega, by go_num, sbW3, hide (HJ2.out HE.out)⟩
          · have e5 : ((r.xs.length : Int) != (n : Int)) = true := by simp; omega
            have e6 : ¬(r.xs.length : Int) = (n : Int) := by omega
            have HE : Hid (r.right n = false) := hide (by unfold RRow.right; rw [decide_eq_false (by omega)]; rfl)
            obtain ⟨z0, z1, zf⟩ := b2.c2
            go_wp2_with fail
            refine bodyPost_ret (v := .tuple #[.agg #[.slice none 0 0, .slice none 0 0], .int .i64 1]) (by simp [results, Tryz.results8, go_sem, z0, z1]) rfl ?_
            exact HBD.out _ ((sbN.setCell (Nat.le_refl _) _).setCell (Nat.le_refl _) _) HE.out
end Go.Proofs.YtphjffbldhhdiaaGreatDoor
