/- whole.long: by its contract. -/
import Derived.Test.YthpibilefdmemaaDoorLongLaw2
namespace Go.Proofs.YthpibilefdmemaaDoor
open Go.RowKit

set_option maxRecDepth 100000 in
theorem run_cut32 (w : World) (G len cap l h : Nat) (x y : Int) (hx : x = (l : Int)) (hy : y = (h : Int)) (h1 : l ≤ h) (h2 : h ≤ cap) (h3 : l < cap) :
    (Instr.slice 22 (.slice (some ⟨G, 0, none⟩) len cap) (some (.int .i64 x)) (some (.int .i64 y)) none).run Tryd.prog w = .ok (.slice (some ⟨G, l, none⟩) (h - l) (cap - l)) w := by
  subst hx hy
  rw [run_slice_lh (P := Tryd.prog) w 22 (some ⟨G, 0, none⟩) len cap Tryd.underlying22 .i64 .i64 (l : Int) (h : Int) (by omega) (by omega) (by omega)]
  rw [elem32, size_u32]
  have e : ¬ cap = l := by omega
  simp [Result.andThen, sliced, e, add_plain]

theorem DRow.grown {k : IntKind} {t : TypeId} {w w' : World} {g G : Nat} {ds : List Nat} (h : DRow k t w g ds) (hg : w.grownBy w' (some G)) (hne : g ≠ G) : DRow k t w' g ds := Blk.grown h hg (by simpa using hne)

/-- What long division leaves. -/
def LgPost (w : World) (A B : List Nat) (e : Ending) (w' : World) : Prop :=
  ∃ a1 c1 out a2 c2 left, e = .returned (.tuple #[.slice a1 (List.length out) c1, .slice a2 (List.length left) c2]) ∧ Fit a1 out.length c1 ∧ Fit a2 left.length c2 ∧ Dg .u32 w' a1 out ∧ Dg .u32 w' a2 left ∧ Digs BB out ∧ Digs BB left ∧ val BB out = val BB A / val BB B ∧ val BB left = val BB A % val BB B ∧ out.length ≤ A.length ∧ left.length ≤ B.length ∧ Below w.heap.size w w'

/-- Where a number so many times is a quotient and what is left, the number itself is. -/
theorem scale_back {A B t U Q : Nat} (ht : 1 ≤ t) (h : A * t = U + B * t * Q) (hU : U < B * t) : Q = A / B ∧ U / t = A % B := by
  have hB : 0 < B := by
    rcases Nat.eq_zero_or_pos B with h0 | h0
    · subst h0; simp at hU
    · exact h0
  have hq : Q = A / B := by
    have h1 : Q * (B * t) ≤ A * t := by rw [h, Nat.mul_comm Q]; omega
    have h2 : A * t < (Q + 1) * (B * t) := by rw [h, Nat.add_mul, Nat.one_mul, Nat.mul_comm Q]; omega
    have h3 : Q * B ≤ A := by
      rw [← Nat.mul_assoc] at h1
      exact Nat.le_of_mul_le_mul_right h1 (by omega)
    have h4 : A < (Q + 1) * B := by
      rw [← Nat.mul_assoc] at h2
      exact Nat.lt_of_mul_lt_mul_right h2
    have h5 : Q ≤ A / B := (Nat.le_div_iff_mul_le hB).2 h3
    have h6 : A / B < Q + 1 := (Nat.div_lt_iff_lt_mul hB).2 h4
    omega
  refine ⟨hq, ?_⟩
  have hdm := Nat.div_add_mod A B
  have hU2 : U = (A % B) * t := by
    have h7 : (B * (A / B) + A % B) * t = U + B * t * Q := by rw [hdm, h]
    rw [Nat.add_mul, ← hq] at h7
    have h8 : B * Q * t = B * t * Q := by rw [Nat.mul_assoc, Nat.mul_comm Q t, ← Nat.mul_assoc]
    omega
  rw [hU2, Nat.mul_div_cancel _ (by omega)]

structure LoopSt (w : World) (G G2 G3 : Nat) (At mm la k : Nat) (V U out : List Nat) (wr : World) : Prop where
  st : LgSt At (val BB V) mm k U out
  rU : DRow .u32 81 wr G U
  rV : DRow .u32 81 wr G2 V
  rO : DRow .u32 81 wr G3 out
  lU : U.length = la + 1
  bel : Below w.heap.size w wr

theorem long_end {A B t mm : Nat} {V U out : List Nat} (ht : 1 ≤ t) (h : LgSt (A * t) (val BB V) mm 0 U out) (hV : Hid (val BB V = B * t)) : val BB out = A / B ∧ val BB U / t = A % B := by
  have h1 := h.val_
  have h2 := h.left
  rw [List.drop_zero, Nat.pow_zero, Nat.one_mul, hV.out] at h1
  rw [List.drop_zero, hV.out] at h2
  exact scale_back ht h1 h2

theorem take_keeps {At mm n : Nat} {V U out : List Nat} (h : LgSt At (val BB V) mm 0 U out) (hV : Hid (val BB V < BB ^ n)) (hl : n ≤ U.length) : val BB (U.take n) = val BB U := by
  have h2 := h.left
  rw [List.drop_zero] at h2
  rw [val_take_drop BB U n hl, drop_zero_of (Nat.lt_trans h2 hV.out), Nat.mul_zero, Nat.add_zero]

set_option maxRecDepth 100000 in
set_option maxHeartbeats 3200000 in
theorem long_any (p q : Option Addr) (cp cq : Nat) (A B : List Nat) (m : Nat) (w : World) (hA : Dg .u32 w p A) (hB : Dg .u32 w q B) (dA : Digs BB A) (cB : Canon BB B) (hBl : B.length = m + 2) (hle : m + 2 ≤ A.length) (hAn : A.length ≤ 1099511627776) :
    Calls Tryd.prog 82 #[.slice p A.length cp, .slice q B.length cq] w (LgPost w A B) := by
  generalize hP : LgPost w A B = Post
  have HP := hide hP
  clear hP
  obtain ⟨b1, o1, hq', hc1, hl1⟩ := hB.at (i := m + 1) (by omega)
  have hbt := cB.1.at (i := m + 1) (by omega)
  have hbt0 : 1 ≤ B[m + 1]'(by omega) := by
    rcases snoc_cases B with h | ⟨r, d, h⟩
    · rw [h] at hBl; simp at hBl
    · have h1 := cB.2
      have h2 : B[m + 1]'(by omega) = d := by
        have hr : r.length = m + 1 := by rw [h] at hBl; simp at hBl; exact hBl
        have : B[m + 1]? = some d := by rw [h, ← hr]; simp
        rw [List.getElem?_eq_getElem (by omega)] at this
        exact Option.some.inj this
      rw [h] at h1
      simp at h1
      omega
  have HBV := hide (val_two hBl cB.1)
  generalize hbte : B[m + 1]'(by omega) = bt at hc1 hbt hbt0
  rw [BB_eq] at hbt
  subst hq'
  obtain ⟨t, htd⟩ : ∃ t : Nat, t = 1000000000 / (bt + 1) := ⟨_, rfl⟩
  have ht1 : 1 ≤ t := by rw [htd]; exact (Nat.le_div_iff_mul_le (by omega)).2 (by omega)
  have ht9 : t < 1000000000 := by rw [htd]; exact Nat.div_lt_self (by omega) (by omega)
  have htm : t * (bt + 1) ≤ 1000000000 := by rw [htd]; exact Nat.div_mul_le_self _ _
  have hti : (1000000000 : Int) / ((bt : Int) + 1) = (t : Int) := by rw [htd, Int.natCast_ediv]; rfl
  clear htd
  go_enter Tryd.func82, Tryd.ntmps82
  rw [hBl]
  have hsA := scaled_any p cp A t (A.length + 1) w hA dA ht9 (by omega)
  rw [show ((A.length + 1 : Nat) : Int) = (A.length : Int) + 1 by omega] at hsA
  go_wp2_with fail
  refine hsA.mono ?_
  clear hsA
  rintro e w1 ⟨U0, cU, rfl, lU0, rU0, dU0, hvU0, hb1⟩
  have hsB := scaled_any (some ⟨b1, o1, none⟩) cq B t (m + 2) w1 (hB.below hb1 (Nat.le_refl _)) cB.1 ht9 (by omega)
  rw [hBl, show ((m + 2 : Nat) : Int) = (m : Int) + 2 by omega] at hsB
  go_wp2_with fail
  refine hsB.mono ?_
  clear hsB
  rintro e w2 ⟨V, cV, rfl, lV, rV, dV, hvV, hb2⟩
  have hG12 : w.heap.size < w1.heap.size := rU0.lt
  have hG2' : w1.heap.size < w2.heap.size := rV.lt
  replace rU0 := rU0.below hb2 hG12
  go_wp2_with (at_make; refine wpList_make_zero rfl _ _ rfl _ _ (A.length - (m + 2) + 1) rfl rfl (by omega) (by omega) (by omega) ?_)
  intro w3 rO hb3
  replace rU0 := rU0.below hb3 (by omega)
  replace rV := rV.below hb3 hG2'
  have hBel : Below w.heap.size w w3 := hb1.trans ((hb2.trans (hb3.mono (by omega))).mono (by omega))
  clear hb1 hb2 hb3
  obtain ⟨mm, hmm⟩ : ∃ mm : Nat, mm + (m + 1) = A.length := ⟨A.length - (m + 1), by omega⟩
  have HU0 := hide hvU0
  have HV0 := hide hvV
  clear hvU0 hvV
  rw [← hbte] at hbt0 htm
  obtain ⟨hVB, HV1, HV2, hL0⟩ := long_start dA cB hBl hmm hbt0 ht1 (by rw [BB_eq]; exact ht9) (by rw [BB_eq]; exact htm) lU0 dU0 HU0 HV0
  have HVB := hide hVB
  have hVp : 0 < val BB V := Nat.lt_of_lt_of_le (Nat.pow_pos (by rw [BB_eq]; decide)) HV2.out
  rw [show A.length - (m + 2) + 1 = mm by omega] at rO ⊢
  rw [show (A.length : Int) - ((m : Int) + 2) + 1 = (mm : Int) by omega]
  have s0 : LoopSt w w.heap.size w1.heap.size w2.heap.size (val BB A * t) mm A.length mm V U0 (List.replicate mm 0) w3 := ⟨hL0, rU0, rV, rO, lU0, hBel⟩
  have HMM := hide hmm
  have hml : m + 3 ≤ 1099511627779 := by omega
  have hmmA : mm ≤ A.length := by omega
  clear hVB HU0 HV0 hL0 rU0 rV rO lU0 hBel dU0 hmm hbte hbt0 htm hbt hti hc1 HBV
  go_wp2_with fail
  go_loopg [11] mm (fun k v wr => ∃ (U out : List Nat), k ≤ mm ∧ v = .int .i64 ((k : Int) - 1) ∧ LoopSt w w.heap.size w1.heap.size w2.heap.size (val BB A * t) mm A.length k V U out wr)
  case atStart => exact ⟨_, _, Nat.le_refl _, rfl, s0⟩
  case round =>
    obtain ⟨U, out, hk, rfl, s⟩ := hrel
    clear s0
    obtain ⟨GG, hGG⟩ : ∃ GG : Nat, GG = w.heap.size := ⟨_, rfl⟩
    have hUn : U.length ≤ 2199023255552 := by rw [s.lU]; omega
    rcases gk with _ | j
    · obtain ⟨hQ, hR⟩ := long_end ht1 s.st HVB
      have hU2 := take_keeps (U := U) (n := m + 2) s.st HV1 (by rw [s.lU]; omega)
      have hl2 : (U.take (m + 2)).length = m + 2 := by rw [List.length_take, s.lU]; omega
      have hs1 := fun w => run_upto32 w (some ⟨GG, 0, none⟩) (A.length + 1) (A.length + 1) (m + 2) ((m : Int) + 2) (by omega) (by omega)
      rw [hGG] at hs1
      have hsh := short_any (some ⟨w.heap.size, 0, none⟩) (A.length + 1) (U.take (m + 2)) t wr (s.rU.dg.take _) (s.st.dU.take _) (by rw [hl2]; omega) ht1 (by omega)
      rw [hl2] at hsh
      have HQ := hide hQ
      have HR := hide hR
      have HU2 := hide hU2
      have HS := hide s
      have hlo := s.st.len
      clear hQ hR hU2 s
      rw [show (((0 : Nat) : Int) - 1) = -1 by omega]
      go_wp2_with fail
      refine hsh.mono ?_
      clear hsh
      rintro e w4 ⟨a, cap, lf, rfl, hfit, hdg, hds, hv, hln, hbl⟩
      rw [HU2.out, HR.out] at hv
      rw [hl2] at hln
      go_wp2_with fail
      rw [← HP.out]
      have hrO := HS.out.rO
      refine ⟨some ⟨w2.heap.size, 0, none⟩, mm, out, a, cap, lf, ?_, ⟨by omega, fun h => by cases h⟩, hfit, (hrO.below hbl hrO.lt).dg, hdg, HS.out.st.digs, hds, HQ.out, hv, by omega, by omega, HS.out.bel.trans (hbl.mono HS.out.bel.size)⟩
      rw [hlo, hln]
      rfl
    · have hjl : j + (m + 3) ≤ A.length + 1 := by have := HMM.out; omega
      obtain ⟨hD1, HD2, P, u', v', hkn⟩ := round_kn s.st.dU dV s.lU lV hjl s.st.left HV1 HV2
      have hs1 := fun w => run_cut32 w GG (A.length + 1) (A.length + 1) j (j + (m + 3)) (j : Int) ((j : Int) + ((m : Int) + 2) + 1) rfl (by omega) (by omega) (by omega) (by omega)
      simp only [Nat.add_sub_cancel_left] at hs1
      rw [hGG] at hs1
      have hgu := guessed_any w.heap.size j m (A.length + 1 - j) (some ⟨w1.heap.size, 0, none⟩) (m + 2) U V wr s.rU s.st.dU (by rw [s.lU]; omega) hUn s.rV.dg dV lV _ _ P u' v' hkn
      rw [show (((j + 1 : Nat) : Int) - 1) = (j : Int) by omega]
      go_wp2_with fail
      refine hgu.mono ?_
      clear hgu
      rintro e w4 ⟨g, n, rfl, hg9, hgq, hgq1, rfl⟩
      have hg9' : g < 1000000000 := by rw [BB_eq] at hg9; exact hg9
      have hap : Apart (some ⟨w1.heap.size, 0, none⟩) w.heap.size := fun b o e => by injection e with e; injection e with e1; omega
      have haw := takeAway_any w.heap.size j (m + 3) (A.length + 1 - j) (some ⟨w1.heap.size, 0, none⟩) (m + 2) U V g (wr.drewN n) s.rU s.st.dU (by rw [s.lU]; omega) hUn s.rV.dg hap dV hg9'
      rw [lV] at haw
      go_wp2_with fail
      refine haw.mono ?_
      clear haw
      rintro e w5 ⟨U1, c, br, rfl, rU1, hAw, hgr, hsz⟩
      have hbor := hAw.bor
      have hjU : j + (m + 2) + 1 ≤ U.length := by rw [s.lU]; omega
      have hjm : j < mm := by omega
      have rV5 := (show DRow .u32 81 (wr.drewN n) w1.heap.size V from s.rV).grown hgr (by omega)
      have rO5 := (show DRow .u32 81 (wr.drewN n) w2.heap.size out from s.rO).grown hgr (by omega)
      have bel5 : Below w.heap.size w w5 := (below_drewN s.bel n).trans (below_of_grown hgr (fun g hg => by injection hg with hg; omega) s.bel.size)
      have hjo : j < out.length := by rw [s.st.len]; exact hjm
      rcases Nat.eq_zero_or_pos br with h0 | h0
      · subst h0
        obtain ⟨hge, hR⟩ := AwSt.good (n := m + 2) hAw lV HV1.out hjU hg9 hgq hVp
        have hst := s.st.next hjm hVp hR (by rw [← hge]; exact hg9)
        rw [← hge] at hst
        have hco := rO5.cell hjo
        have hfo := rO5.frozen j
        have hlU1 : U1.length = A.length + 1 := hR.len.trans s.lU
        generalize out[j] = O at hco
        have s2 : LoopSt w w.heap.size w1.heap.size w2.heap.size (val BB A * t) mm A.length j V U1 (out.set j g) (w5.setCell ⟨w2.heap.size, j, none⟩ (.int .u32 (g : Int))) :=
          ⟨hst, rU1.far (by simp; omega) _, rV5.far (by simp; omega) _, rO5.set j g, hlU1, bel5.setCell (by simp; omega) _⟩
        have HS2 := hide s2
        clear s2 hst hR hge hgq hgq1 hAw hgr hsz s rU1 rV5 rO5 bel5 hkn hD1 HD2 hs1 hGG hlU1
        go_wp2_with fail
        go_roundg j
        case measure => omega
        case rel => exact ⟨U1, out.set j g, by omega, rfl, HS2.out⟩
      · obtain rfl : br = 1 := by omega
        have hpb := putBack_any w.heap.size j (m + 3) (A.length + 1 - j) (some ⟨w1.heap.size, 0, none⟩) (m + 2) U1 V w5 rU1 hAw.digs (by rw [hAw.len, s.lU]; omega) (by rw [hAw.len]; exact hUn) rV5.dg hap dV
        rw [lV] at hpb
        have hg1 : 1 ≤ g := by
          have := (AwSt.drop (n := m + 2) hAw lV (by omega))
          rcases Nat.eq_zero_or_pos g with h0 | h0
          · exfalso
            subst h0
            have h1 := AwSt.top (n := m + 2) hAw HD2.out hjU
            rw [Nat.mul_zero, Nat.add_zero] at this
            have h2 : BB ^ (m + 2 + 1) * 1 ≤ BB ^ (m + 2 + 1) * (1 + c) := Nat.mul_le_mul_left _ (by omega)
            generalize BB ^ (m + 2 + 1) = R at *
            omega
          · exact h0
        go_wp2_with fail
        refine hpb.mono ?_
        clear hpb
        rintro e w6 ⟨U2, c2, rfl, rU2, hBk, hgr2, hsz2⟩
        obtain ⟨hge, hR⟩ := AwSt.bad (n := m + 2) hAw hBk lV HV1.out hjU HD2.out hg9 hgq1 hVp
        have hge' : g - 1 = val BB (U.drop j) / val BB V := by omega
        have hst := s.st.next hjm hVp hR (by rw [← hge']; omega)
        rw [← hge'] at hst
        have rV6 := rV5.grown hgr2 (by omega)
        have rO6 := rO5.grown hgr2 (by omega)
        have bel6 : Below w.heap.size w w6 := bel5.trans (below_of_grown hgr2 (fun g hg => by injection hg with hg; omega) bel5.size)
        have hco := rO6.cell hjo
        have hfo := rO6.frozen j
        have hlU1 : U2.length = A.length + 1 := hR.len.trans s.lU
        generalize out[j] = O at hco
        have s2 : LoopSt w w.heap.size w1.heap.size w2.heap.size (val BB A * t) mm A.length j V U2 (out.set j (g - 1)) (w6.setCell ⟨w2.heap.size, j, none⟩ (.int .u32 ((g - 1 : Nat) : Int))) :=
          ⟨hst, rU2.far (by simp; omega) _, rV6.far (by simp; omega) _, rO6.set j (g - 1), hlU1, bel6.setCell (by simp; omega) _⟩
        rw [show ((g - 1 : Nat) : Int) = (g : Int) - 1 by omega] at s2
        have HS2 := hide s2
        clear s2 hst hR hge hge' hgq hgq1 hAw hBk hgr hgr2 hsz hsz2 s rU1 rU2 rV5 rV6 rO5 rO6 bel5 bel6 hkn hD1 HD2 hs1 hGG hlU1
        go_wp2_with fail
        go_roundg j
        case measure => omega
        case rel => exact ⟨U2, out.set j (g - 1), by omega, rfl, HS2.out⟩
end Go.Proofs.YthpibilefdmemaaDoor
