/- whole.guessed: by its contract. -/
import Derived.Test.YthpibilefdmemaaDoorAway
import Derived.Test.YthpibilefdmemaaDoorKnuth
namespace Go.Proofs.YthpibilefdmemaaDoor
open Go.RowKit

def GuPost (w : World) (Q : Nat) (e : Ending) (w' : World) : Prop := ∃ g n : Nat, e = .returned (.int .u64 (g : Int)) ∧ g < BB ∧ Q ≤ g ∧ g ≤ Q + 1 ∧ w' = w.drewN n

set_option maxRecDepth 100000 in
set_option maxHeartbeats 1600000 in
theorem guessed_any (G o m cu : Nat) (q : Option Addr) (cq : Nat) (U V : List Nat) (w : World) (hU : DRow .u32 81 w G U) (dU : Digs BB U) (hom : o + m + 3 ≤ U.length) (hUn : U.length ≤ 2199023255552) (hV : Dg .u32 w q V) (dV : Digs BB V) (hVl : V.length = m + 2)
    (Un Vn P u' v' : Nat) (hk : Kn P Un Vn u' (U[o + m]'(by omega)) (U[o + m + 1]'(by omega)) (U[o + m + 2]'(by omega)) v' (V[m]'(by omega)) (V[m + 1]'(by omega))) :
    Calls Tryd.prog 86 #[.slice (some ⟨G, o, none⟩) (m + 3) cu, .slice q (m + 2) cq] w (GuPost w (Un / Vn)) := by
  generalize hP : GuPost w (Un / Vn) = Post
  have HP := hide hP
  clear hP
  have c0 := hU.cell (i := o + m) (by omega)
  have c1 := hU.cell (i := o + m + 1) (by omega)
  have c2 := hU.cell (i := o + m + 2) (by omega)
  obtain ⟨b1, o1, rfl, d0, hl1⟩ := hV.at (i := m) (by omega)
  obtain ⟨b2, o2, he, d1, hl2⟩ := hV.at (i := m + 1) (by omega)
  have e2 : b2 = b1 ∧ o2 = o1 := by injection he with he; injection he with h1 h2; exact ⟨h1.symm, h2.symm⟩
  obtain ⟨rfl, rfl⟩ := e2
  have hu2 := dU.at (i := o + m) (by omega)
  have hu1 := dU.at (i := o + m + 1) (by omega)
  have hu0 := dU.at (i := o + m + 2) (by omega)
  have hv2 := dV.at (i := m) (by omega)
  have hv1 := dV.at (i := m + 1) (by omega)
  have HKN := hide hk
  have hv1p := hk.hv1
  have hVp := hk.vpos
  obtain ⟨Q, hQ⟩ : ∃ Q : Nat, Q = Un / Vn := ⟨_, rfl⟩
  have HQ0 : Hid (Q * Vn ≤ Un) := hide (by rw [hQ]; exact Nat.div_mul_le_self _ _)
  have HQ1 : Hid (∀ g, g * Vn ≤ Un → g ≤ Q) := hide (fun g h => by rw [hQ]; exact (Nat.le_div_iff_mul_le hVp).2 h)
  have HQ2 : Hid (∀ g, Un < g * Vn → Q + 1 ≤ g) := hide (fun g h => by rw [hQ]; exact (Nat.div_lt_iff_lt_mul hVp).2 h)
  have hQB : Q < 1000000000 := by
    have : Q < BB := by rw [hQ, Nat.div_lt_iff_lt_mul hVp, Nat.mul_comm]; exact hk.hlt
    rw [BB_eq] at this
    exact this
  rw [← hQ] at HP
  clear hQ
  generalize U[o + m] = u2 at *
  generalize U[o + m + 1] = u1 at *
  generalize U[o + m + 2] = u0 at *
  generalize V[m] = v2 at *
  generalize V[m + 1] = v1 at *
  rw [BB_eq] at hu2 hu1 hu0 hv2 hv1
  clear hk he
  have hml : m + 3 ≤ 2199023255552 := by omega
  have w1 : IntKind.i64.wrap (((m + 2 : Nat) : Int) - 1) = ((m + 1 : Nat) : Int) := by rw [IntWalk.i64_in _ (by omega)]; omega
  have w2 : IntKind.i64.wrap (((m + 2 : Nat) : Int) - 2) = ((m : Nat) : Int) := by rw [IntWalk.i64_in _ (by omega)]; omega
  go_enter Tryd.func86, Tryd.ntmps86
  go_wp2_with fail
  go_quiet (fail)
  obtain ⟨nq1, hn1⟩ : ∃ k : Nat, k = nq := ⟨_, rfl⟩
  subst hn1
  have c1' : w.cell? ⟨G, o + (m + 1), none⟩ = some (.int .u32 (u1 : Int)) := c1
  have c2' : w.cell? ⟨G, o + (m + 2), none⟩ = some (.int .u32 (u0 : Int)) := c2
  go_wp2_with fail
  go_quiet (fail)
  obtain ⟨nq2, hn2⟩ : ∃ k : Nat, k = nq := ⟨_, rfl⟩
  subst hn2
  obtain ⟨g0, hg0⟩ : ∃ g : Nat, g = (u0 * 1000000000 + u1) / v1 := ⟨_, rfl⟩
  obtain ⟨r0, hr0⟩ : ∃ r : Nat, r = (u0 * 1000000000 + u1) % v1 := ⟨_, rfl⟩
  have hq1 : ((u0 : Int) * 1000000000 + (u1 : Int)) / (v1 : Int) = (g0 : Int) := by rw [hg0]; exact cast_div u0 u1 v1
  have hr1 : ((u0 : Int) * 1000000000 + (u1 : Int)) % (v1 : Int) = (r0 : Int) := by rw [hr0]; exact cast_mod u0 u1 v1
  have hr0lt : r0 < v1 := by rw [hr0]; exact Nat.mod_lt _ (by omega)
  have HG0 : Hid (g0 * v1 + r0 = u0 * BB + u1 ∧ Q ≤ g0) := hide (by
    refine ⟨?_, ?_⟩
    · rw [BB_eq, hg0, hr0, Nat.mul_comm]; exact Nat.div_add_mod _ _
    · rw [hg0, Nat.le_div_iff_mul_le (by omega)]
      have := HKN.out.first (q := Q) HQ0.out
      rw [BB_eq] at this
      exact this)
  have hvv : (1 : Int) ≤ (v1 : Int) := by omega
  clear hg0 hr0
  go_wp2_with fail
  go_quiet (fail)
  go_wp2_with fail
  rw [hq1, hr1]
  obtain ⟨N, hN⟩ := drew3 (w := w) (n := nq1) (m := nq2) (l := nq)
  rw [hN]
  clear hN hq1 hr1 w1 w2
  go_loopg [9, 10] g0 (fun k a b wr => ∃ (g r n : Nat), k = g ∧ a = .int .u64 (g : Int) ∧ b = .int .u64 (r : Int) ∧ r < 1000000000 ∧ Hid (g * v1 + r = u0 * BB + u1 ∧ Q ≤ g) ∧ wr = w.drewN n)
  case atStart => exact ⟨g0, r0, N, rfl, rfl, rfl, by omega, HG0, rfl⟩
  case round =>
    obtain ⟨g, r, n, rfl, rfl, rfl, hr9, HG, rfl⟩ := hrel
    clear HG0 hr0lt
    have htop := HKN.out.top
    have HST : Hid (1000000000 ≤ gk ∨ r * 1000000000 + u2 < gk * v2 → Q + 1 ≤ gk) := hide (fun h => by
      rcases h with h | h
      · omega
      · exact HQ2.out _ (HKN.out.over HG.out.1 (by rw [BB_eq]; exact h)))
    have hgk : gk ≤ 1000000000 * 1000000000 := by
      have h1 := HG.out.1
      have h2 : gk * 1 ≤ gk * v1 := Nat.mul_le_mul_left _ hv1p
      rw [BB_eq] at h1
      omega
    have HNX : Hid (Q + 1 ≤ gk → (gk - 1) * v1 + (r + v1) = u0 * BB + u1 ∧ Q ≤ gk - 1) := hide (fun h => by
      refine ⟨?_, by omega⟩
      have h1 := HG.out.1
      obtain ⟨t, rfl⟩ : ∃ t, gk = t + 1 := ⟨gk - 1, by omega⟩
      rw [Nat.add_mul, Nat.one_mul] at h1
      simp only [Nat.add_sub_cancel]
      omega)
    have HFAR : Hid (Q + 1 ≤ gk → 1000000000 ≤ r + v1 → gk - 1 < BB ∧ Q ≤ gk - 1 ∧ gk - 1 ≤ Q + 1) := hide (fun h hfar => by
      obtain ⟨e1, e2⟩ := HNX.out h
      have hlt : gk - 1 < BB := by
        rcases Nat.lt_or_ge (gk - 1) BB with h' | h'
        · exact h'
        · have : BB * v1 ≤ (gk - 1) * v1 := Nat.mul_le_mul_right _ h'
          rw [Nat.mul_comm BB v1] at this
          rw [BB_eq] at this htop e1
          omega
      have := HKN.out.far e1 hlt (by rw [BB_eq]; exact hfar)
      have h3 : gk - 1 ≤ Q := HQ1.out _ this
      exact ⟨hlt, e2, by omega⟩)
    have HNEAR : Hid (gk < 1000000000 → ¬ r * 1000000000 + u2 < gk * v2 → gk < BB ∧ Q ≤ gk ∧ gk ≤ Q + 1) := hide (fun h hn => by
      have hlt : gk < BB := by rw [BB_eq]; exact h
      have := HKN.out.near HG.out.1 hlt (by rw [BB_eq]; omega)
      have h3 : gk - 1 ≤ Q := HQ1.out _ this
      exact ⟨hlt, HG.out.2, by omega⟩)
    clear HG htop
    rcases Nat.lt_or_ge gk 1000000000 with hsm | hbig
    · clear hgk
      have hgv2 : gk * v2 ≤ 999999999 * 999999999 := Nat.mul_le_mul (by omega) (by omega)
      have hgv := cast_mul gk v2
      generalize gk * v2 = D at hgv2 hgv HST HNEAR
      have hsmI : (gk : Int) < 1000000000 := by omega
      have t1 : decide ((1000000000 : Int) ≤ (gk : Int)) = false := decide_eq_false (by omega)
      by_cases hov : r * 1000000000 + u2 < D
      · have t2 : decide ((r : Int) * 1000000000 + (u2 : Int) < (D : Int)) = true := decide_eq_true (by omega)
        have hq1 : 1 ≤ gk := by have := HST.out (.inr hov); omega
        rcases Nat.lt_or_ge (r + v1) 1000000000 with hlt | hge
        · have HN := hide (HNX.out (HST.out (.inr hov)))
          have hnf : decide ((1000000000 : Int) ≤ (r : Int) + (v1 : Int)) = false := decide_eq_false (by omega)
          have HLT := hide hlt
          clear HNX HFAR HNEAR HST hlt hsm hov
          go_wp2_with fail
          go_roundg (gk - 1)
          case measure => omega
          case rel => exact ⟨gk - 1, r + v1, n, rfl, congrArg (Value.int .u64) (by omega), congrArg (Value.int .u64) (by omega), HLT.out, HN, rfl⟩
        · have HN := hide (HFAR.out (HST.out (.inr hov)) hge)
          have hnf : decide ((1000000000 : Int) ≤ (r : Int) + (v1 : Int)) = true := decide_eq_true (by omega)
          clear HNX HFAR HNEAR HST hge hsm hov
          go_wp2_with fail
          rw [← HP.out]
          exact ⟨gk - 1, n, by rw [show ((gk - 1 : Nat) : Int) = (gk : Int) - 1 by omega]; rfl, HN.out.1, HN.out.2.1, HN.out.2.2, rfl⟩
      · have HN := hide (HNEAR.out hsm hov)
        have t2 : decide ((r : Int) * 1000000000 + (u2 : Int) < (D : Int)) = false := decide_eq_false (by omega)
        clear HNX HFAR HNEAR HST hsm hov
        go_wp2_with fail
        rw [← HP.out]
        exact ⟨gk, n, rfl, HN.out.1, HN.out.2.1, HN.out.2.2, rfl⟩
    · have hbigI : (1000000000 : Int) ≤ (gk : Int) := by omega
      have t1 : decide ((1000000000 : Int) ≤ (gk : Int)) = true := decide_eq_true (by omega)
      have hq1 : 1 ≤ gk := by have := HST.out (.inl hbig); omega
      rcases Nat.lt_or_ge (r + v1) 1000000000 with hlt | hge
      · have HN := hide (HNX.out (HST.out (.inl hbig)))
        have hnf : decide ((1000000000 : Int) ≤ (r : Int) + (v1 : Int)) = false := decide_eq_false (by omega)
        have HLT := hide hlt
        clear HNX HFAR HNEAR HST hlt hbig
        go_wp2_with fail
        go_roundg (gk - 1)
        case measure => omega
        case rel => exact ⟨gk - 1, r + v1, n, rfl, congrArg (Value.int .u64) (by omega), congrArg (Value.int .u64) (by omega), HLT.out, HN, rfl⟩
      · have HN := hide (HFAR.out (HST.out (.inl hbig)) hge)
        have hnf : decide ((1000000000 : Int) ≤ (r : Int) + (v1 : Int)) = true := decide_eq_true (by omega)
        clear HNX HFAR HNEAR HST hge hbig
        go_wp2_with fail
        rw [← HP.out]
        exact ⟨gk - 1, n, by rw [show ((gk - 1 : Nat) : Int) = (gk : Int) - 1 by omega]; rfl, HN.out.1, HN.out.2.1, HN.out.2.2, rfl⟩
end Go.Proofs.YthpibilefdmemaaDoor
