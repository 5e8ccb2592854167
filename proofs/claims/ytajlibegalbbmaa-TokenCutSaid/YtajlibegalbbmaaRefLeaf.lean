/- The byte predicates of the reference's package for tokens, each by its contract. -/
import Derived.Test.YtajlibegalbbmaaMem
namespace Go.Proofs.Ytajlibegalbbmaa
open Go.RowKit

theorem rdigit_any : IsPred 28 digitB := by
  intro c w
  by_cases h1 : 48 ≤ c.toNat <;> by_cases h2 : c.toNat ≤ 57
  all_goals first | (exfalso; omega) | skip
  all_goals
    go_enter Try.func28, Try.ntmps28
    go_wp2
    go_ret
    refine ⟨ret_bool ?_, rfl⟩
    rw [Bool.eq_iff_iff]
    simp [digitB]
    try omega
theorem rdigit_enters : Enters 28 := fun _ _ => run_enter Try.func28 (by kernel_rfl) rfl _ _

theorem rblank_any : IsPred 27 blankB := by
  intro c w
  by_cases h1 : c.toNat = 9 <;> by_cases h2 : c.toNat = 10 <;> by_cases h3 : c.toNat = 13
  all_goals first | (exfalso; omega) | skip
  all_goals
    go_enter Try.func27, Try.ntmps27
    go_wp2
    go_ret
    refine ⟨ret_bool ?_, rfl⟩
    rw [Bool.eq_iff_iff]
    simp [blankB]
    try omega
theorem rblank_enters : Enters 27 := fun _ _ => run_enter Try.func27 (by kernel_rfl) rfl _ _

theorem rhex_any : IsPred 30 hexB := by
  intro c w
  cases hd : digitB c
  all_goals
     by_cases h1 : 65 ≤ c.toNat <;> by_cases h2 : c.toNat ≤ 70 <;> by_cases h3 : 97 ≤ c.toNat <;> by_cases h4 : c.toNat ≤ 102
  all_goals first | (exfalso; omega) | skip
  all_goals
    go_enter Try.func30, Try.ntmps30
    go_wp2_with (first | (go_at_call 28; refine (rdigit_any c _).mono ?_; rintro e w' ⟨rfl, rfl⟩))
    go_ret
    refine ⟨ret_bool ?_, rfl⟩
    rw [Bool.eq_iff_iff]
    simp [hexB, hd]
    try omega
theorem rhex_enters : Enters 30 := fun _ _ => run_enter Try.func30 (by kernel_rfl) rfl _ _

theorem rplain_any : IsPred 31 textB := by
  intro c w
  by_cases h1 : c.toNat = 9 <;> by_cases h2 : c.toNat = 10 <;> by_cases h3 : c.toNat = 13 <;> by_cases h4 : 32 ≤ c.toNat
  all_goals first | (exfalso; omega) | skip
  all_goals
    go_enter Try.func31, Try.ntmps31
    go_wp2
    go_ret
    refine ⟨ret_bool ?_, rfl⟩
    rw [Bool.eq_iff_iff]
    simp [textB, blankB]
    try omega
theorem rplain_enters : Enters 31 := fun _ _ => run_enter Try.func31 (by kernel_rfl) rfl _ _

set_option maxHeartbeats 800000 in
theorem rinner_any : IsPred 29 symB := by
  intro c w
  go_enter Try.func29, Try.ntmps29
  go_wp2_with fail
  go_loopg [4] 17 (fun k i wr => ∃ j : Nat, j + k = 17 ∧ i = .int .i64 (j : Int) ∧ w = wr ∧ c ∉ signs.take j)
  case atStart => exact ⟨0, rfl, rfl, rfl, by simp⟩
  case round =>
    obtain ⟨j, hj, rfl, rfl, hn⟩ := hrel
    have HN := hide hn
    clear hn
    by_cases hlt : j < 17
    · have hjl : j ≤ 16 := by omega
      go_wp2_with fail
      · have hq : (((signs[j]'hlt).toNat : Int) == (c.toNat : Int)) = true := by assumption
        go_ret
        refine ⟨ret_bool ?_, rfl⟩
        have hc : signs[j]'hlt = c := by
          simp at hq
          exact UInt8.toNat.inj (by omega)
        have hm : c ∈ signs := hc ▸ List.getElem_mem hlt
        simp [symB, hm]
      · have hq : (((signs[j]'hlt).toNat : Int) == (c.toNat : Int)) = false := by assumption
        go_roundg (17 - (j + 1))
        case measure => omega
        case rel =>
          refine ⟨j + 1, by omega, by go_num, rfl, ?_⟩
          rw [List.take_succ_eq_append_getElem hlt, List.mem_append]
          rintro (h | h)
          · exact HN.out h
          · rw [List.mem_singleton] at h
            rw [← h] at hq
            simp at hq
    · have hj17 : j = 17 := by omega
      subst hj17
      have hm : c ∉ signs := HN.out
      have HM := hide hm
      clear hm HN
      cases hd : digitB c
      all_goals by_cases h1 : 97 ≤ c.toNat <;> by_cases h2 : c.toNat ≤ 122 <;> by_cases h3 : 65 ≤ c.toNat <;> by_cases h4 : c.toNat ≤ 90
      all_goals first | (exfalso; omega) | skip
      all_goals
        go_wp2_with (go_at_call 28; refine (rdigit_any c _).mono ?_; rintro e w' ⟨rfl, rfl⟩)
        go_ret
        refine ⟨ret_bool ?_, rfl⟩
        rw [Bool.eq_iff_iff]
        simp [symB, hd, HM.out]
        try omega

end Go.Proofs.Ytajlibegalbbmaa
