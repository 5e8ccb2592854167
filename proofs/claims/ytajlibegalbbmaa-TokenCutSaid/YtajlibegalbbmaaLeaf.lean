/- The byte predicates of package token, each by its contract. -/
import Derived.Test.YtajlibegalbbmaaProg
import Derived.Test.YtajlibegalbbmaaPlain
import Derived.WalkKit
import Derived.WalkSpells
import Derived.WalkLawsBesides
namespace Go.Proofs.Ytajlibegalbbmaa
open Go.RowKit

theorem run_enter {P : Program} {f : FuncId} {fn : Func} {c : Code} (hf : P.funcs[f]? = some fn) (hname : (fn.name == "runtime.NumGoroutine") = false) (hb : fn.body = some c) (args : Array Value) (w : World) :
    (callFunc f args).run P w = .ok (.enter f args) w := by
  have h1 : fn.name ≠ "runtime.NumGoroutine" := by simpa using hname
  simp [callFunc, hf, h1, hb]

/-- Function K may be called as a value. -/
def Enters (K : Nat) : Prop := ∀ (args : Array Value) (w : World), (callFunc K args).run Try.prog w = .ok (.enter K args) w

def IsPred (K : Nat) (p : UInt8 → Bool) : Prop := ∀ (c : UInt8) (w : World), Calls Try.prog K #[.int .u8 (c.toNat : Int)] w fun e w' => e = .returned (.bool (p c)) ∧ w = w'

theorem ret_bool {a b : Bool} (h : a = b) : Ending.returned (.bool a) = .returned (.bool b) := by rw [h]
theorem ret_int {k : IntKind} {a b : Int} (h : a = b) : Ending.returned (.int k a) = .returned (.int k b) := by rw [h]

theorem run_ixs (s : ByteArray) (c : UInt8) (w : World) : (callFunc 51 #[.string s, .int .u8 (c.toNat : Int)]).run Try.prog w = .ok (.value (.int .i64 (Lib.indexByte s.data.toList c))) w := by
  rw [run_callFunc_extern Try.func51 (by kernel_rfl) (by kernel_rfl) (by kernel_rfl) (e := Extern.BytealgIndexByte.indexByte) (by kernel_rfl), Lib.run_indexByteString]
  simp

theorem index_any (s : ByteArray) (c : UInt8) (w : World) : Calls Try.prog 45 #[.string s, .int .u8 (c.toNat : Int)] w fun e w' => e = .returned (.int .i64 (Lib.indexByte s.data.toList c)) ∧ w = w' := by
  have hx := run_ixs s c
  go_enter Try.func45, Try.ntmps45
  go_wp2
  go_ret
  exact ⟨rfl, rfl⟩

theorem isDigit_any : IsPred 18 digitB := by
  intro c w
  by_cases h1 : 48 ≤ c.toNat <;> by_cases h2 : c.toNat ≤ 57
  all_goals first | (exfalso; omega) | skip
  all_goals
    go_enter Try.func18, Try.ntmps18
    go_wp2
    go_ret
    refine ⟨ret_bool ?_, rfl⟩
    rw [Bool.eq_iff_iff]
    simp [digitB]
    try omega
theorem isDigit_enters : Enters 18 := fun _ _ => run_enter Try.func18 (by kernel_rfl) rfl _ _

theorem isBlank_any : IsPred 14 blankB := by
  intro c w
  by_cases h1 : c.toNat = 9 <;> by_cases h2 : c.toNat = 10 <;> by_cases h3 : c.toNat = 13
  all_goals first | (exfalso; omega) | skip
  all_goals
    go_enter Try.func14, Try.ntmps14
    go_wp2
    go_ret
    refine ⟨ret_bool ?_, rfl⟩
    rw [Bool.eq_iff_iff]
    simp [blankB]
    try omega
theorem isBlank_enters : Enters 14 := fun _ _ => run_enter Try.func14 (by kernel_rfl) rfl _ _

theorem isInLine_any : IsPred 16 lineB := by
  intro c w
  all_goals first | (exfalso; omega) | skip
  all_goals
    go_enter Try.func16, Try.ntmps16
    go_wp2
    go_ret
    refine ⟨ret_bool ?_, rfl⟩
    rw [Bool.eq_iff_iff]
    simp [lineB]
    try omega
theorem isInLine_enters : Enters 16 := fun _ _ => run_enter Try.func16 (by kernel_rfl) rfl _ _

theorem isBinary_any : IsPred 39 binB := by
  intro c w
  by_cases h1 : c.toNat = 48
  all_goals first | (exfalso; omega) | skip
  all_goals
    go_enter Try.func39, Try.ntmps39
    go_wp2
    go_ret
    refine ⟨ret_bool ?_, rfl⟩
    rw [Bool.eq_iff_iff]
    simp [binB]
    try omega
theorem isBinary_enters : Enters 39 := fun _ _ => run_enter Try.func39 (by kernel_rfl) rfl _ _

theorem isX_any : IsPred 37 xB := by
  intro c w
  all_goals first | (exfalso; omega) | skip
  all_goals
    go_enter Try.func37, Try.ntmps37
    go_wp2
    go_ret
    refine ⟨ret_bool ?_, rfl⟩
    rw [Bool.eq_iff_iff]
    simp [xB]
    try omega
theorem isX_enters : Enters 37 := fun _ _ => run_enter Try.func37 (by kernel_rfl) rfl _ _

theorem isB_any : IsPred 38 bB := by
  intro c w
  all_goals first | (exfalso; omega) | skip
  all_goals
    go_enter Try.func38, Try.ntmps38
    go_wp2
    go_ret
    refine ⟨ret_bool ?_, rfl⟩
    rw [Bool.eq_iff_iff]
    simp [bB]
    try omega
theorem isB_enters : Enters 38 := fun _ _ => run_enter Try.func38 (by kernel_rfl) rfl _ _

theorem isHex_any : IsPred 36 hexB := by
  intro c w
  cases hd : digitB c
  all_goals
     by_cases h1 : 97 ≤ c.toNat <;> by_cases h2 : c.toNat ≤ 102 <;> by_cases h3 : 65 ≤ c.toNat <;> by_cases h4 : c.toNat ≤ 70
  all_goals first | (exfalso; omega) | skip
  all_goals
    go_enter Try.func36, Try.ntmps36
    go_wp2_with (first | (go_at_call 18; refine (isDigit_any c _).mono ?_; rintro e w' ⟨rfl, rfl⟩))
    go_ret
    refine ⟨ret_bool ?_, rfl⟩
    rw [Bool.eq_iff_iff]
    simp [hexB, hd]
    try omega
theorem isHex_enters : Enters 36 := fun _ _ => run_enter Try.func36 (by kernel_rfl) rfl _ _

theorem isInText_any : IsPred 48 textB := by
  intro c w
  cases hd : blankB c
  all_goals
     by_cases h1 : 32 < c.toNat <;> by_cases h2 : c.toNat ≤ 126
  all_goals first | (exfalso; omega) | skip
  all_goals
    go_enter Try.func48, Try.ntmps48
    go_wp2_with (first | (go_at_call 14; refine (isBlank_any c _).mono ?_; rintro e w' ⟨rfl, rfl⟩))
    go_ret
    refine ⟨ret_bool ?_, rfl⟩
    rw [Bool.eq_iff_iff]
    simp [textB, hd]
    try omega
theorem isInText_enters : Enters 48 := fun _ _ => run_enter Try.func48 (by kernel_rfl) rfl _ _

theorem isInString_any : IsPred 41 strB := by
  intro c w
  cases hd : textB c
  all_goals
     all_goals first | (exfalso; omega) | skip
  all_goals
    go_enter Try.func41, Try.ntmps41
    go_wp2_with (first | (go_at_call 48; refine (isInText_any c _).mono ?_; rintro e w' ⟨rfl, rfl⟩))
    go_ret
    refine ⟨ret_bool ?_, rfl⟩
    rw [Bool.eq_iff_iff]
    simp [strB, hd]
    try omega
theorem isInString_enters : Enters 41 := fun _ _ => run_enter Try.func41 (by kernel_rfl) rfl _ _

theorem isInBars_any : IsPred 44 barB := by
  intro c w
  cases hd : textB c <;> cases he : ((c.toNat : Int) != 92)
  all_goals first | (exfalso; omega) | skip
  all_goals
    go_enter Try.func44, Try.ntmps44
    go_wp2_with (first | (go_at_call 48; refine (isInText_any c _).mono ?_; rintro e w' ⟨rfl, rfl⟩))
    go_ret
    refine ⟨ret_bool ?_, rfl⟩
    rw [Bool.eq_iff_iff]
    simp [barB, hd]
    try (simp at he; omega)
theorem isInBars_enters : Enters 44 := fun _ _ => run_enter Try.func44 (by kernel_rfl) rfl _ _

theorem sym_idx (c : UInt8) : (0 ≤ Lib.indexByte [126, 33, 64, 36, 37, 94, 38, 42, 95, 45, 43, 61, 60, 62, 46, 63, 47] c) ↔ c ∈ signs := by
  have h := index_contains signs c
  rw [Bool.eq_iff_iff] at h
  simp only [decide_eq_true_eq, List.contains_iff_mem] at h
  exact h

theorem isSymbol_any : IsPred 24 symB := by
  intro c w
  cases hd : digitB c
  all_goals
     by_cases h1 : 97 ≤ c.toNat <;> by_cases h2 : c.toNat ≤ 122 <;> by_cases h3 : 65 ≤ c.toNat <;> by_cases h4 : c.toNat ≤ 90
  all_goals first | (exfalso; omega) | skip
  all_goals
    go_enter Try.func24, Try.ntmps24
    go_wp2_with (first | (go_at_call 18; refine (isDigit_any c _).mono ?_; rintro e w' ⟨rfl, rfl⟩) | (go_at_call 45; refine (index_any _ c _).mono ?_; rintro e w' ⟨rfl, rfl⟩))
    go_ret
    refine ⟨ret_bool ?_, rfl⟩
    rw [Bool.eq_iff_iff]
    simp [symB, hd]
    try ((try rw [sym_idx]); by_cases hs : c ∈ signs <;> simp [hs] <;> omega)
theorem isSymbol_enters : Enters 24 := fun _ _ => run_enter Try.func24 (by kernel_rfl) rfl _ _

end Go.Proofs.Ytajlibegalbbmaa
