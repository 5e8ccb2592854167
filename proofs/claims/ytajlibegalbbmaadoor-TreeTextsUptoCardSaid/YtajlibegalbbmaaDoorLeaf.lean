/- The byte predicates of package token, each by its contract. -/
import Derived.Test.YtajlibegalbbmaaDoorProg
import Derived.Test.YtajlibegalbbmaaDoorPlain
import Derived.WalkKit
import Derived.WalkSpells
import Derived.WalkLawsBesides
namespace Go.Proofs.YtajlibegalbbmaaDoor
open Go.RowKit

theorem run_enter {P : Program} {f : FuncId} {fn : Func} {c : Code} (hf : P.funcs[f]? = some fn) (hname : (fn.name == "runtime.NumGoroutine") = false) (hb : fn.body = some c) (args : Array Value) (w : World) :
    (callFunc f args).run P w = .ok (.enter f args) w := by
  have h1 : fn.name ≠ "runtime.NumGoroutine" := by simpa using hname
  simp [callFunc, hf, h1, hb]

/-- Function K may be called as a value. -/
def Enters (K : Nat) : Prop := ∀ (args : Array Value) (w : World), (callFunc K args).run Tryd.prog w = .ok (.enter K args) w

def IsPred (K : Nat) (p : UInt8 → Bool) : Prop := ∀ (c : UInt8) (w : World), Calls Tryd.prog K #[.int .u8 (c.toNat : Int)] w fun e w' => e = .returned (.bool (p c)) ∧ w = w'

theorem ret_bool {a b : Bool} (h : a = b) : Ending.returned (.bool a) = .returned (.bool b) := by rw [h]
theorem ret_int {k : IntKind} {a b : Int} (h : a = b) : Ending.returned (.int k a) = .returned (.int k b) := by rw [h]

theorem run_ixs (s : ByteArray) (c : UInt8) (w : World) : (callFunc 86 #[.string s, .int .u8 (c.toNat : Int)]).run Tryd.prog w = .ok (.value (.int .i64 (Lib.indexByte s.data.toList c))) w := by
  rw [run_callFunc_extern Tryd.func86 (by kernel_rfl) (by kernel_rfl) (by kernel_rfl) (e := Extern.BytealgIndexByte.indexByte) (by kernel_rfl), Lib.run_indexByteString]
  simp

theorem index_any (s : ByteArray) (c : UInt8) (w : World) : Calls Tryd.prog 72 #[.string s, .int .u8 (c.toNat : Int)] w fun e w' => e = .returned (.int .i64 (Lib.indexByte s.data.toList c)) ∧ w = w' := by
  have hx := run_ixs s c
  go_enter Tryd.func72, Tryd.ntmps72
  go_wp2
  go_ret
  exact ⟨rfl, rfl⟩

theorem isDigit_any : IsPred 43 digitB := by
  intro c w
  by_cases h1 : 48 ≤ c.toNat <;> by_cases h2 : c.toNat ≤ 57
  all_goals first | (exfalso; omega) | skip
  all_goals
    go_enter Tryd.func43, Tryd.ntmps43
    go_wp2
    go_ret
    refine ⟨ret_bool ?_, rfl⟩
    rw [Bool.eq_iff_iff]
    simp [digitB]
    try omega
theorem isDigit_enters : Enters 43 := fun _ _ => run_enter Tryd.func43 (by kernel_rfl) rfl _ _

theorem isBlank_any : IsPred 39 blankB := by
  intro c w
  by_cases h1 : c.toNat = 9 <;> by_cases h2 : c.toNat = 10 <;> by_cases h3 : c.toNat = 13
  all_goals first | (exfalso; omega) | skip
  all_goals
    go_enter Tryd.func39, Tryd.ntmps39
    go_wp2
    go_ret
    refine ⟨ret_bool ?_, rfl⟩
    rw [Bool.eq_iff_iff]
    simp [blankB]
    try omega
theorem isBlank_enters : Enters 39 := fun _ _ => run_enter Tryd.func39 (by kernel_rfl) rfl _ _

theorem isInLine_any : IsPred 41 lineB := by
  intro c w
  all_goals first | (exfalso; omega) | skip
  all_goals
    go_enter Tryd.func41, Tryd.ntmps41
    go_wp2
    go_ret
    refine ⟨ret_bool ?_, rfl⟩
    rw [Bool.eq_iff_iff]
    simp [lineB]
    try omega
theorem isInLine_enters : Enters 41 := fun _ _ => run_enter Tryd.func41 (by kernel_rfl) rfl _ _

theorem isBinary_any : IsPred 69 binB := by
  intro c w
  by_cases h1 : c.toNat = 48
  all_goals first | (exfalso; omega) | skip
  all_goals
    go_enter Tryd.func69, Tryd.ntmps69
    go_wp2
    go_ret
    refine ⟨ret_bool ?_, rfl⟩
    rw [Bool.eq_iff_iff]
    simp [binB]
    try omega
theorem isBinary_enters : Enters 69 := fun _ _ => run_enter Tryd.func69 (by kernel_rfl) rfl _ _

theorem isX_any : IsPred 67 xB := by
  intro c w
  all_goals first | (exfalso; omega) | skip
  all_goals
    go_enter Tryd.func67, Tryd.ntmps67
    go_wp2
    go_ret
    refine ⟨ret_bool ?_, rfl⟩
    rw [Bool.eq_iff_iff]
    simp [xB]
    try omega
theorem isX_enters : Enters 67 := fun _ _ => run_enter Tryd.func67 (by kernel_rfl) rfl _ _

theorem isB_any : IsPred 68 bB := by
  intro c w
  all_goals first | (exfalso; omega) | skip
  all_goals
    go_enter Tryd.func68, Tryd.ntmps68
    go_wp2
    go_ret
    refine ⟨ret_bool ?_, rfl⟩
    rw [Bool.eq_iff_iff]
    simp [bB]
    try omega
theorem isB_enters : Enters 68 := fun _ _ => run_enter Tryd.func68 (by kernel_rfl) rfl _ _

theorem isHex_any : IsPred 66 hexB := by
  intro c w
  cases hd : digitB c
  all_goals
     by_cases h1 : 97 ≤ c.toNat <;> by_cases h2 : c.toNat ≤ 102 <;> by_cases h3 : 65 ≤ c.toNat <;> by_cases h4 : c.toNat ≤ 70
  all_goals first | (exfalso; omega) | skip
  all_goals
    go_enter Tryd.func66, Tryd.ntmps66
    go_wp2_with (first | (go_at_call 43; refine (isDigit_any c _).mono ?_; rintro e w' ⟨rfl, rfl⟩))
    go_ret
    refine ⟨ret_bool ?_, rfl⟩
    rw [Bool.eq_iff_iff]
    simp [hexB, hd]
    try omega
theorem isHex_enters : Enters 66 := fun _ _ => run_enter Tryd.func66 (by kernel_rfl) rfl _ _

theorem isInText_any : IsPred 80 textB := by
  intro c w
  cases hd : blankB c
  all_goals
     by_cases h1 : 32 < c.toNat <;> by_cases h2 : c.toNat ≤ 126
  all_goals first | (exfalso; omega) | skip
  all_goals
    go_enter Tryd.func80, Tryd.ntmps80
    go_wp2_with (first | (go_at_call 39; refine (isBlank_any c _).mono ?_; rintro e w' ⟨rfl, rfl⟩))
    go_ret
    refine ⟨ret_bool ?_, rfl⟩
    rw [Bool.eq_iff_iff]
    simp [textB, hd]
    try omega
theorem isInText_enters : Enters 80 := fun _ _ => run_enter Tryd.func80 (by kernel_rfl) rfl _ _

theorem isInString_any : IsPred 70 strB := by
  intro c w
  cases hd : textB c
  all_goals
     all_goals first | (exfalso; omega) | skip
  all_goals
    go_enter Tryd.func70, Tryd.ntmps70
    go_wp2_with (first | (go_at_call 80; refine (isInText_any c _).mono ?_; rintro e w' ⟨rfl, rfl⟩))
    go_ret
    refine ⟨ret_bool ?_, rfl⟩
    rw [Bool.eq_iff_iff]
    simp [strB, hd]
    try omega
theorem isInString_enters : Enters 70 := fun _ _ => run_enter Tryd.func70 (by kernel_rfl) rfl _ _

theorem isInBars_any : IsPred 71 barB := by
  intro c w
  cases hd : textB c <;> cases he : ((c.toNat : Int) != 92)
  all_goals first | (exfalso; omega) | skip
  all_goals
    go_enter Tryd.func71, Tryd.ntmps71
    go_wp2_with (first | (go_at_call 80; refine (isInText_any c _).mono ?_; rintro e w' ⟨rfl, rfl⟩))
    go_ret
    refine ⟨ret_bool ?_, rfl⟩
    rw [Bool.eq_iff_iff]
    simp [barB, hd]
    try (simp at he; omega)
theorem isInBars_enters : Enters 71 := fun _ _ => run_enter Tryd.func71 (by kernel_rfl) rfl _ _

theorem sym_idx (c : UInt8) : (0 ≤ Lib.indexByte [126, 33, 64, 36, 37, 94, 38, 42, 95, 45, 43, 61, 60, 62, 46, 63, 47] c) ↔ c ∈ signs := by
  have h := index_contains signs c
  rw [Bool.eq_iff_iff] at h
  simp only [decide_eq_true_eq, List.contains_iff_mem] at h
  exact h

theorem isSymbol_any : IsPred 49 symB := by
  intro c w
  cases hd : digitB c
  all_goals
     by_cases h1 : 97 ≤ c.toNat <;> by_cases h2 : c.toNat ≤ 122 <;> by_cases h3 : 65 ≤ c.toNat <;> by_cases h4 : c.toNat ≤ 90
  all_goals first | (exfalso; omega) | skip
  all_goals
    go_enter Tryd.func49, Tryd.ntmps49
    go_wp2_with (first | (go_at_call 43; refine (isDigit_any c _).mono ?_; rintro e w' ⟨rfl, rfl⟩) | (go_at_call 72; refine (index_any _ c _).mono ?_; rintro e w' ⟨rfl, rfl⟩))
    go_ret
    refine ⟨ret_bool ?_, rfl⟩
    rw [Bool.eq_iff_iff]
    simp [symB, hd]
    try ((try rw [sym_idx]); by_cases hs : c ∈ signs <;> simp [hs] <;> omega)
theorem isSymbol_enters : Enters 49 := fun _ _ => run_enter Tryd.func49 (by kernel_rfl) rfl _ _

end Go.Proofs.YtajlibegalbbmaaDoor
