/- The byte predicates of the reference's package for tokens, each by its contract. -/
import Derived.Test.YtajlibegalbbmaaDoorMem
namespace Go.Proofs.YtajlibegalbbmaaDoor
open Go.RowKit

theorem rdigit_any : IsPred 58 digitB := by
  intro c w
  by_cases h1 : 48 ≤ c.toNat <;> by_cases h2 : c.toNat ≤ 57
  all_goals first | (exfalso; omega) | skip
  all_goals
    go_enter Tryd.func58, Tryd.ntmps58
    go_wp2
    go_ret
    refine ⟨ret_bool ?_, rfl⟩
    rw [Bool.eq_iff_iff]
    simp [digitB]
    try omega
theorem rdigit_enters : Enters 58 := fun _ _ => run_enter Tryd.func58 (by kernel_rfl) rfl _ _

theorem rblank_any : IsPred 57 blankB := by
  intro c w
  by_cases h1 : c.toNat = 9 <;> by_cases h2 : c.toNat = 10 <;> by_cases h3 : c.toNat = 13
  all_goals first | (exfalso; omega) | skip
  all_goals
    go_enter Tryd.func57, Tryd.ntmps57
    go_wp2
    go_ret
    refine ⟨ret_bool ?_, rfl⟩
    rw [Bool.eq_iff_iff]
    simp [blankB]
    try omega
theorem rblank_enters : Enters 57 := fun _ _ => run_enter Tryd.func57 (by kernel_rfl) rfl _ _

theorem rhex_any : IsPred 60 hexB := by
  intro c w
  cases hd : digitB c
  all_goals
     by_cases h1 : 65 ≤ c.toNat <;> by_cases h2 : c.toNat ≤ 70 <;> by_cases h3 : 97 ≤ c.toNat <;> by_cases h4 : c.toNat ≤ 102
  all_goals first | (exfalso; omega) | skip
  all_goals
    go_enter Tryd.func60, Tryd.ntmps60
    go_wp2_with (first | (go_at_call 58; refine (rdigit_any c _).mono ?_; rintro e w' ⟨rfl, rfl⟩))
    go_ret
    refine ⟨ret_bool ?_, rfl⟩
    rw [Bool.eq_iff_iff]
    simp [hexB, hd]
    try omega
theorem rhex_enters : Enters 60 := fun _ _ => run_enter Tryd.func60 (by kernel_rfl) rfl _ _

theorem rplain_any : IsPred 61 textB := by
  intro c w
  by_cases h1 : c.toNat = 9 <;> by_cases h2 : c.toNat = 10 <;> by_cases h3 : c.toNat = 13 <;> by_cases h4 : 32 ≤ c.toNat
  all_goals first | (exfalso; omega) | skip
  all_goals
    go_enter Tryd.func61, Tryd.ntmps61
    go_wp2
    go_ret
    refine ⟨ret_bool ?_, rfl⟩
    rw [Bool.eq_iff_iff]
    simp [textB, blankB]
    try omega
theorem rplain_enters : Enters 61 := fun _ _ => run_enter Tryd.func61 (by kernel_rfl) rfl _ _

set_option maxHeartbeats 800000 in
theorem rinner_any : IsPred 59 symB := by
  intro c w
  go_enter Tryd.func59, Tryd.ntmps59
  go_wp2_with fail
  go_loopg [4] 17 (fun k i wr => ∃ j : Nat, j + k = 17 ∧ i = .int .i64 (j : Int) ∧ w = wr ∧ c ∉ signs.take j)
  case atStart => exact ⟨0, rfl, rfl, rfl, by simp⟩
  case round =>
    obtain ⟨j, hj, rfl, rfl, hn⟩ := hrel
    have HN := hide hn
    clear hn
    by_cases hlt : j < 17
    · have hjl : j ≤ 16 := by omega
      go_wp2_with fail
      · have hq : (((signs[j]'hlt).toNat : Int) == (c.toNat : Int)) = true := by assumption
        go_ret
        refine ⟨ret_bool ?_, rfl⟩
        have hc : signs[j]'hlt = c := by
          simp at hq
          exact UInt8.toNat.inj (by omega)
        have hm : c ∈ signs := hc ▸ List.getElem_mem hlt
        simp [symB, hm]
      · have hq : (((signs[j]'hlt).toNat : Int) == (c.toNat : Int)) = false := by assumption
        go_roundg (17 - (j + 1))
        case measure => omega
        case rel =>
          refine ⟨j + 1, by omega, by go_num, rfl, ?_⟩
          rw [List.take_succ_eq_append_getElem hlt, List.mem_append]
          rintro (h | h)
          · exact HN.out h
          · rw [List.mem_singleton] at h
            rw [← h] at hq
            simp at hq
    · have hj17 : j = 17 := by omega
      subst hj17
      have hm : c ∉ signs := HN.out
      have HM := hide hm
      clear hm HN
      cases hd : digitB c
      all_goals by_cases h1 : 97 ≤ c.toNat <;> by_cases h2 : c.toNat ≤ 122 <;> by_cases h3 : 65 ≤ c.toNat <;> by_cases h4 : c.toNat ≤ 90
      all_goals first | (exfalso; omega) | skip
      all_goals
        go_wp2_with (go_at_call 58; refine (rdigit_any c _).mono ?_; rintro e w' ⟨rfl, rfl⟩)
        go_ret
        refine ⟨ret_bool ?_, rfl⟩
        rw [Bool.eq_iff_iff]
        simp [symB, hd, HM.out]
        try omega

end Go.Proofs.YtajlibegalbbmaaDoor
