/- Which method reads a token that begins with a byte; the token at a place, by that method. -/
import Derived.Test.YtajlibegalbbmaaDoorCatch
namespace Go.Proofs.YtajlibegalbbmaaDoor
open Go.RowKit

/-- The number of the method. -/
def wayF (c : UInt8) : Nat :=
  if c.toNat == 40 || c.toNat == 41 then 42 else if digitB c then 44 else if c.toNat == 35 then 45 else if c.toNat == 34 then 46 else if c.toNat == 58 then 47 else if c.toNat == 124 then 48 else if symB c then 50 else 51

theorem mk_func (fn : Fn) (first cap : Array Value) (w : World) : (Instr.makeFunc fn first cap).run Tryd.prog w = .ok (.func fn first cap) w := rfl

theorem ret_way {a b : Nat} {v : Value} (h : a = b) : Ending.returned (.func (.func a) #[v] #[]) = .returned (.func (.func b) #[v] #[]) := by rw [h]

set_option maxHeartbeats 1600000 in
theorem way_any (c : UInt8) (r : Value) (w : World) : Calls Tryd.prog 28 #[r, .int .u8 (c.toNat : Int)] w fun e w' => e = .returned (.func (.func (wayF c)) #[r] #[]) ∧ w = w' := by
  have hmf := mk_func
  generalize hK : wayF c = K
  unfold wayF at hK
  have HK := hide hK
  clear hK
  by_cases h0 : c.toNat = 40
  · have e0 : ((c.toNat : Int) == 40) = true := by simp [h0]
    have H0 := hide h0
    clear h0
    go_enter Tryd.func28, Tryd.ntmps28
    go_wp2_with (first | (go_at_call 43; refine (isDigit_any c _).mono ?_; rintro e w' ⟨rfl, rfl⟩) | (go_at_call 49; refine (isSymbol_any c _).mono ?_; rintro e w' ⟨rfl, rfl⟩))
    go_ret
    refine ⟨ret_way ?_, rfl⟩
    rw [← HK.out]
    simp [H0.out]
  have e0 : ((c.toNat : Int) == 40) = false := by simp; omega
  have H0 := hide h0
  clear h0
  by_cases h1 : c.toNat = 41
  · have e1 : ((c.toNat : Int) == 41) = true := by simp [h1]
    have H1 := hide h1
    clear h1
    go_enter Tryd.func28, Tryd.ntmps28
    go_wp2_with (first | (go_at_call 43; refine (isDigit_any c _).mono ?_; rintro e w' ⟨rfl, rfl⟩) | (go_at_call 49; refine (isSymbol_any c _).mono ?_; rintro e w' ⟨rfl, rfl⟩))
    go_ret
    refine ⟨ret_way ?_, rfl⟩
    rw [← HK.out]
    simp [H1.out]
  have e1 : ((c.toNat : Int) == 41) = false := by simp; omega
  have H1 := hide h1
  clear h1
  by_cases h2 : digitB c = true
  · go_enter Tryd.func28, Tryd.ntmps28
    go_wp2_with (first | (go_at_call 43; refine (isDigit_any c _).mono ?_; rintro e w' ⟨rfl, rfl⟩) | (go_at_call 49; refine (isSymbol_any c _).mono ?_; rintro e w' ⟨rfl, rfl⟩))
    go_ret
    refine ⟨ret_way ?_, rfl⟩
    rw [← HK.out]
    simp [H0.out, H1.out, h2]
  have e2 : digitB c = false := by simpa using h2
  clear h2
  by_cases h3 : c.toNat = 35
  · have e3 : ((c.toNat : Int) == 35) = true := by simp [h3]
    have H3 := hide h3
    clear h3
    go_enter Tryd.func28, Tryd.ntmps28
    go_wp2_with (first | (go_at_call 43; refine (isDigit_any c _).mono ?_; rintro e w' ⟨rfl, rfl⟩) | (go_at_call 49; refine (isSymbol_any c _).mono ?_; rintro e w' ⟨rfl, rfl⟩))
    go_ret
    refine ⟨ret_way ?_, rfl⟩
    rw [← HK.out]
    simp [e2, H3.out]
  have e3 : ((c.toNat : Int) == 35) = false := by simp; omega
  have H3 := hide h3
  clear h3
  by_cases h4 : c.toNat = 34
  · have e4 : ((c.toNat : Int) == 34) = true := by simp [h4]
    have H4 := hide h4
    clear h4
    go_enter Tryd.func28, Tryd.ntmps28
    go_wp2_with (first | (go_at_call 43; refine (isDigit_any c _).mono ?_; rintro e w' ⟨rfl, rfl⟩) | (go_at_call 49; refine (isSymbol_any c _).mono ?_; rintro e w' ⟨rfl, rfl⟩))
    go_ret
    refine ⟨ret_way ?_, rfl⟩
    rw [← HK.out]
    simp [e2, H4.out]
  have e4 : ((c.toNat : Int) == 34) = false := by simp; omega
  have H4 := hide h4
  clear h4
  by_cases h5 : c.toNat = 58
  · have e5 : ((c.toNat : Int) == 58) = true := by simp [h5]
    have H5 := hide h5
    clear h5
    go_enter Tryd.func28, Tryd.ntmps28
    go_wp2_with (first | (go_at_call 43; refine (isDigit_any c _).mono ?_; rintro e w' ⟨rfl, rfl⟩) | (go_at_call 49; refine (isSymbol_any c _).mono ?_; rintro e w' ⟨rfl, rfl⟩))
    go_ret
    refine ⟨ret_way ?_, rfl⟩
    rw [← HK.out]
    simp [e2, H5.out]
  have e5 : ((c.toNat : Int) == 58) = false := by simp; omega
  have H5 := hide h5
  clear h5
  by_cases h6 : c.toNat = 124
  · have e6 : ((c.toNat : Int) == 124) = true := by simp [h6]
    have H6 := hide h6
    clear h6
    go_enter Tryd.func28, Tryd.ntmps28
    go_wp2_with (first | (go_at_call 43; refine (isDigit_any c _).mono ?_; rintro e w' ⟨rfl, rfl⟩) | (go_at_call 49; refine (isSymbol_any c _).mono ?_; rintro e w' ⟨rfl, rfl⟩))
    go_ret
    refine ⟨ret_way ?_, rfl⟩
    rw [← HK.out]
    simp [e2, H6.out]
  have e6 : ((c.toNat : Int) == 124) = false := by simp; omega
  have H6 := hide h6
  clear h6
  by_cases h7 : symB c = true
  · go_enter Tryd.func28, Tryd.ntmps28
    go_wp2_with (first | (go_at_call 43; refine (isDigit_any c _).mono ?_; rintro e w' ⟨rfl, rfl⟩) | (go_at_call 49; refine (isSymbol_any c _).mono ?_; rintro e w' ⟨rfl, rfl⟩))
    go_ret
    refine ⟨ret_way ?_, rfl⟩
    rw [← HK.out]
    simp [H0.out, H1.out, e2, H3.out, H4.out, H5.out, H6.out, h7]
  have e7 : symB c = false := by simpa using h7
  clear h7
  go_enter Tryd.func28, Tryd.ntmps28
  go_wp2_with (first | (go_at_call 43; refine (isDigit_any c _).mono ?_; rintro e w' ⟨rfl, rfl⟩) | (go_at_call 49; refine (isSymbol_any c _).mono ?_; rintro e w' ⟨rfl, rfl⟩))
  go_ret
  refine ⟨ret_way ?_, rfl⟩
  rw [← HK.out]
  simp [H0.out, H1.out, e2, H3.out, H4.out, H5.out, H6.out, e7]

theorem way_enters (c : UInt8) : Enters (wayF c) := by
  unfold wayF
  split
  · exact fun _ _ => run_enter Tryd.func42 (by kernel_rfl) rfl _ _
  split
  · exact fun _ _ => run_enter Tryd.func44 (by kernel_rfl) rfl _ _
  split
  · exact fun _ _ => run_enter Tryd.func45 (by kernel_rfl) rfl _ _
  split
  · exact fun _ _ => run_enter Tryd.func46 (by kernel_rfl) rfl _ _
  split
  · exact fun _ _ => run_enter Tryd.func47 (by kernel_rfl) rfl _ _
  split
  · exact fun _ _ => run_enter Tryd.func48 (by kernel_rfl) rfl _ _
  split
  · exact fun _ _ => run_enter Tryd.func50 (by kernel_rfl) rfl _ _
  exact fun _ _ => run_enter Tryd.func51 (by kernel_rfl) rfl _ _

theorem tok_any {w : World} {R : Nat} {ta : Option Addr} {cap : Nat} {bs : List UInt8} {p : Nat} (h : Rd w R ta cap bs p) (hp : p < bs.length) :
    Calls Tryd.prog (wayF bs[p]) #[.pointer (some ⟨R, 0, none⟩)] w (TokPost w R ta cap bs p (tokT (bs.drop p))) := by
  have e : tokT (bs.drop p) = if bs[p].toNat == 40 || bs[p].toNat == 41 then parenT (bs.drop p) else if digitB bs[p] then numT (bs.drop p) else if bs[p].toNat == 35 then bitsT (bs.drop p) else if bs[p].toNat == 34 then quoT (bs.drop (p + 1)) [] 1 else if bs[p].toNat == 58 then keyT (bs.drop p) else if bs[p].toNat == 124 then barT (bs.drop p) else if symB bs[p] then symT (bs.drop p) else .error 0 := by
    rw [drop_at hp]
    rfl
  rw [e]
  clear e
  unfold wayF
  generalize bs[p] = c
  by_cases hparen : (c.toNat == 40 || c.toNat == 41) = true
  · rw [if_pos hparen, if_pos hparen]; exact paren_any h hp
  rw [if_neg hparen, if_neg hparen]
  by_cases hnumber : (digitB c) = true
  · rw [if_pos hnumber, if_pos hnumber]; exact number_any h hp
  rw [if_neg hnumber, if_neg hnumber]
  by_cases hbits : (c.toNat == 35) = true
  · rw [if_pos hbits, if_pos hbits]; exact bits_any h hp
  rw [if_neg hbits, if_neg hbits]
  by_cases hquoted : (c.toNat == 34) = true
  · rw [if_pos hquoted, if_pos hquoted]; exact quoted_any h hp
  rw [if_neg hquoted, if_neg hquoted]
  by_cases hkeyword : (c.toNat == 58) = true
  · rw [if_pos hkeyword, if_pos hkeyword]; exact keyword_any h hp
  rw [if_neg hkeyword, if_neg hkeyword]
  by_cases hbarred : (c.toNat == 124) = true
  · rw [if_pos hbarred, if_pos hbarred]; exact barred_any h hp
  rw [if_neg hbarred, if_neg hbarred]
  by_cases hsymbol : (symB c) = true
  · rw [if_pos hsymbol, if_pos hsymbol]; exact symbol_any h
  rw [if_neg hsymbol, if_neg hsymbol]
  exact wrong_any h
end Go.Proofs.YtajlibegalbbmaaDoor
