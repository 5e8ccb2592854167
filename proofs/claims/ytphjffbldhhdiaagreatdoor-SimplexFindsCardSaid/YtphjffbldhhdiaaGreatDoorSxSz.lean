/- Sizes of rows that came in. -/
import Derived.Test.YtphjffbldhhdiaaGreatDoorSxSpeaks
import Derived.Test.YtphjffbldhhdiaaGreatDoorSxGreat
import Derived.Test.YtphjffbldhhdiaaGreatDoorSxNever
namespace Go.Proofs.YtphjffbldhhdiaaGreatDoor
open Go.RowKit

theorem sz1 {n : Nat} (hn : n ≤ 8) : szB 1 n ≤ 87381 := Nat.le_trans (szB_mono hn) (by simp only [szB]; omega)
theorem k2_le {n : Nat} (hn : n ≤ 8) : n * (szB 1 n + 1 + 1) + 1 + 1 ≤ 700000 := by
  have h := sz1 hn
  have : n * (szB 1 n + 1 + 1) ≤ 8 * (szB 1 n + 1 + 1) := Nat.mul_le_mul_right _ hn
  omega
theorem RowsAt.val2 {w : World} {b o n : Nat} {rs : List RRow} (h : RowsAt w (some ⟨b, o, none⟩) rs) (hr : rightRows n rs = true) : RowsV w b o (sysOf n rs) := by
  rcases Nat.eq_zero_or_pos rs.length with h0 | h0
  · intro i hi
    have hi' : i < rs.length := hi
    omega
  · obtain ⟨b', o', e, h1⟩ := h.val hr h0
    injection e with e
    injection e with e1 e2
    subst e1 e2
    exact h1
theorem sys_size {n N : Nat} {rs : List RRow} (hr : rightRows n rs = true) (hs : ∀ r ∈ rs, r.sz N) (h1 : 1 ≤ N) : (∀ i c, i < (sysOf n rs).m → c < (sysOf n rs).n → Qn N ((sysOf n rs).A i c)) ∧ ∀ i, i < (sysOf n rs).m → Qn N ((sysOf n rs).most i) := by
  refine ⟨fun i c hi hc => ?_, fun i hi => ?_⟩
  · have hi' : i < rs.length := hi
    obtain ⟨hl, _, hx⟩ := right_row hr hi'
    have hc' : c < rs[i].xs.length := by rw [hl]; exact hc
    have e : (sysOf n rs).A i c = rs[i].xs[c].q := by
      show timesQ rs i c = _
      simp [timesQ, List.getElem?_eq_getElem hi', List.getElem?_eq_getElem hc']
    rw [e]
    exact RFr.size (hx _ (List.getElem_mem hc')) ((hs _ (List.getElem_mem hi')).2 _ (List.getElem_mem hc')) h1
  · have hi' : i < rs.length := hi
    obtain ⟨_, hm, _⟩ := right_row hr hi'
    have e : (sysOf n rs).most i = rs[i].most.q := by
      show mostQ rs i = _
      simp [mostQ, List.getElem?_eq_getElem hi']
    rw [e]
    exact RFr.size hm (hs _ (List.getElem_mem hi')).1 h1
theorem fit_sz {S : Sys} {x : Nat → Rat} {k M : Nat} (hn : S.n ≤ 8) (hm : S.m ≤ 1000) (hk : k ≤ 100) (hM1 : M ≤ 1000) (hA : ∀ i c, i < S.m → c < S.n → Qn k (S.A i c)) (hx : ∀ c, c < S.n → Qn 2000000 (x c)) (hM : ∀ i, i < S.m → Qn M (S.most i)) : FitSz S x := by
  exact FitSz.of (k1 := 100) (k2 := 2000000) (k3 := M) (Nat.le_trans hn (by decide)) hm (fun i c hi hc => Qn.mono (hA i c hi hc) hk) hx hM (by clear hA hx hM hm; omega) (Nat.le_trans hM1 (by decide))
theorem nev_sz {S : Sys} {y : Nat → Rat} (hn : S.n ≤ 8) (hm : S.m ≤ 64) (hA : ∀ i c, i < S.m → c < S.n → Qn 1 (S.A i c)) (hy : ∀ i, i < S.m → Qn 87381 (y i)) (hM : ∀ i, i < S.m → Qn 1 (S.most i)) : NevSz S y := by
  exact NevSz.of (k1 := 1) (k2 := 87381) (k3 := 1) (Nat.le_trans hn (by decide)) (Nat.le_trans hm (by decide)) hA hy hM (by clear hA hy hM; omega) (by clear hA hy hM; omega)
theorem right_nat {U : Int} {rs : List RRow} (h : rightRows U rs = true) : ∃ n : Nat, U = (n : Int) ∧ n ≤ 1000 := by
  unfold rightRows at h
  simp only [Bool.and_eq_true, decide_eq_true_eq] at h
  exact ⟨U.toNat, by omega, by omega⟩
end Go.Proofs.YtphjffbldhhdiaaGreatDoor
