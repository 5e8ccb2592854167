/- The reader's small methods: is, fail, run, blanks, by their contracts. -/
import Derived.Test.YtajlibegalbbmaaDoorMem
namespace Go.Proofs.YtajlibegalbbmaaDoor
open Go.RowKit

theorem is_in (R b off n cap p : Nat) (c : UInt8) (K : Nat) (q : UInt8 → Bool) (hK : IsPred K q) (hE : Enters K) (w : World)
    (h0 : w.cell? ⟨R, 0, none⟩ = some (.slice (some ⟨b, off, none⟩) n cap)) (h1 : w.cell? ⟨R, 1, none⟩ = some (.int .i64 (p : Int)))
    (hb : w.cell? ⟨b, off + p, none⟩ = some (.int .u8 (c.toNat : Int))) (hp : p < n) :
    Calls Tryd.prog 63 #[.pointer (some ⟨R, 0, none⟩), .func (.func K) #[] #[]] w fun e w' => e = .returned (.bool (q c)) ∧ ∃ m, w' = w.drewN m := by
  have hd : decide (p < n) = true := by simpa using hp
  have HK := hK c
  have H : Hid (∀ w, Calls Tryd.prog K #[.int .u8 (c.toNat : Int)] w fun e w' => e = .returned (.bool (q c)) ∧ w = w') := HK
  clear hK HK
  have hE' : ∀ (args : Array Value) (w : World), (callFunc K args).run Tryd.prog w = .ok (.enter K args) w := hE
  clear hE
  go_enter Tryd.func63, Tryd.ntmps63
  go_wp2
  go_quiet (exact quiet_left (H.out _))
  go_wp2
  go_ret
  exact ⟨rfl, _, rfl⟩

theorem is_end (R n cap p : Nat) (ta : Option Addr) (K : Nat) (w : World)
    (h0 : w.cell? ⟨R, 0, none⟩ = some (.slice ta n cap)) (h1 : w.cell? ⟨R, 1, none⟩ = some (.int .i64 (p : Int))) (hp : n ≤ p) :
    Calls Tryd.prog 63 #[.pointer (some ⟨R, 0, none⟩), .func (.func K) #[] #[]] w fun e w' => e = .returned (.bool false) ∧ ∃ m, w' = w.drewN m := by
  have hd : decide (p < n) = false := by simpa using hp
  go_enter Tryd.func63, Tryd.ntmps63
  go_wp2
  go_quiet (fail)
  go_wp2
  go_ret
  exact ⟨rfl, _, rfl⟩

theorem is_any {w : World} {R : Nat} {ta : Option Addr} {cap : Nat} {bs : List UInt8} {p : Nat} (h : Rd w R ta cap bs p) (K : Nat) (q : UInt8 → Bool) (hK : IsPred K q) (hE : Enters K) :
    Calls Tryd.prog 63 #[.pointer (some ⟨R, 0, none⟩), .func (.func K) #[] #[]] w fun e w' => e = .returned (.bool (isAt q bs p)) ∧ ∃ m, w' = w.drewN m := by
  rcases Nat.lt_or_ge p bs.length with hp | hp
  · obtain ⟨b, off, rfl, _, hb⟩ := h.byte hp
    rw [isAt_lt hp]
    exact is_in R b off bs.length cap p bs[p] K q hK hE w h.cell0 h.cell1 hb hp
  · rw [isAt_ge hp]
    exact is_end R bs.length cap p ta K w h.cell0 h.cell1 hp

/-- The value with which the reader fails at a place. -/
def faultV (p : Nat) : Value := .iface 31 (.agg #[.int .i64 10, .int .i64 (p : Int)])
abbrev failed (p : Nat) : Ending := .panicked [{ v := faultV p, recovered := false }]

theorem fail_any {w : World} {R : Nat} {ta : Option Addr} {cap : Nat} {bs : List UInt8} {p : Nat} (h : Rd w R ta cap bs p) :
    Calls Tryd.prog 64 #[.pointer (some ⟨R, 0, none⟩)] w fun e w' => e = failed p ∧ w = w' := by
  have h1 := h.cell1
  go_enter Tryd.func64, Tryd.ntmps64
  go_wp2
  exact ⟨rfl, rfl, rfl⟩

def RunRel (w : World) (R : Nat) (ta : Option Addr) (cap : Nat) (bs : List UInt8) (p : Nat) (q : UInt8 → Bool) (k : Nat) (wr : World) : Prop :=
  ∃ j, k = bs.length - (p + j) ∧ (∀ i, i < j → isAt q bs (p + i) = true) ∧ Rd wr R ta cap bs (p + j) ∧ w.grownBy wr (some R)

theorem run_any {w : World} {R : Nat} {ta : Option Addr} {cap : Nat} {bs : List UInt8} {p : Nat} (h : Rd w R ta cap bs p) (K : Nat) (q : UInt8 → Bool) (hK : IsPred K q) (hE : Enters K) :
    Calls Tryd.prog 40 #[.pointer (some ⟨R, 0, none⟩), .func (.func K) #[] #[]] w fun e w' => e = .returned (.string ⟨((bs.drop p).takeWhile q).toArray⟩) ∧ Rd w' R ta cap bs (p + ((bs.drop p).takeWhile q).length) ∧ w.grownBy w' (some R) := by
  have h1 := h.cell1
  go_enter Tryd.func40, Tryd.ntmps40
  go_wp2_with fail
  clear h1
  go_loopg [] (bs.length - p) (fun k wr => RunRel w R ta cap bs p q k wr)
  case atStart => exact ⟨0, rfl, fun i hi => absurd hi (by omega), h, only_refl _ _⟩
  case round =>
    obtain ⟨j, hk, hq, hr, hg⟩ := hrel
    have h1 := hr.cell1
    have h0 := hr.cell0
    have hf := hr.free 1
    have hmax := hr.top
    have hle := hr.le
    have hfit := hr.fit
    have HK := hide hk
    clear hk
    cases hc : isAt q bs (p + j)
    · go_wp2_with (go_at_call 63; refine (is_any hr K q hK hE).mono ?_; rintro e w' ⟨rfl, m, rfl⟩)
      have hs := fun w => run_cut w ta bs.length cap p (p + j) (p : Int) ((p : Int) + (j : Int)) rfl (by omega) (by omega) (by omega)
      rw [Nat.add_sub_cancel_left] at hs
      have hcv := fun n => txt_cut (w := wr.drewN n) (hr.drewN n).txt (p := p) (q := p + j) (cap := cap) (by omega) (by omega) (by omega) (cap - p)
      rw [Nat.add_sub_cancel_left] at hcv
      go_quiet (fail)
      go_wp2
      go_ret
      have hj : (bs.drop p).takeWhile q = (bs.drop p).take j := takeWhile_at j _ (by simp; omega) (fun i hi => by rw [isAt_drop]; exact hq i hi) (by rw [isAt_drop]; exact hc)
      have hl : ((bs.drop p).take j).length = j := by simp; omega
      rw [hj, hl]
      exact ⟨rfl, (hr.drewN _).drewN _, only_drewN (only_drewN hg _) _⟩
    · have hlt : p + j < bs.length := by
        rcases Nat.lt_or_ge (p + j) bs.length with hp | hp
        · exact hp
        · rw [isAt_ge hp] at hc; cases hc
      go_wp2_with (go_at_call 63; refine (is_any hr K q hK hE).mono ?_; rintro e w' ⟨rfl, m, rfl⟩)
      go_roundg (bs.length - (p + (j + 1)))
      case measure => have := HK.out; omega
      case rel =>
        refine ⟨j + 1, rfl, ?_, (hr.drewN m).move (by omega) (by omega), only_setCell (only_drewN hg m) (.inl rfl) _⟩
        intro i hi
        rcases Nat.lt_or_ge i j with h | h
        · exact hq i h
        · obtain rfl : i = j := by omega
          exact hc

def BlankRel (w : World) (R : Nat) (ta : Option Addr) (cap : Nat) (bs : List UInt8) (p : Nat) (k : Nat) (wr : World) : Prop :=
  ∃ j, k = bs.length - j ∧ p ≤ j ∧ j + skipS false (bs.drop j) = p + skipS false (bs.drop p) ∧ Rd wr R ta cap bs j ∧ w.grownBy wr (some R)

set_option maxHeartbeats 800000 in
theorem blanks_any {w : World} {R : Nat} {ta : Option Addr} {cap : Nat} {bs : List UInt8} {p : Nat} (h : Rd w R ta cap bs p) :
    Calls Tryd.prog 27 #[.pointer (some ⟨R, 0, none⟩)] w fun e w' => e = .returned (.tuple #[]) ∧ Rd w' R ta cap bs (p + skipS false (bs.drop p)) ∧ w.grownBy w' (some R) := by
  go_enter Tryd.func27, Tryd.ntmps27
  go_wp2_with fail
  go_loopg [] (bs.length - p) (fun k wr => BlankRel w R ta cap bs p k wr)
  case atStart => exact ⟨p, rfl, Nat.le_refl _, rfl, h, only_refl _ _⟩
  case round =>
    obtain ⟨j, hk, hpj, hs, hr, hg⟩ := hrel
    have h1 := hr.cell1
    have h0 := hr.cell0
    have hf := hr.free 1
    have hmax := hr.top
    have hle := hr.le
    have hfit := hr.fit
    have HS := hide hs
    have HK := hide hk
    clear hk hs
    rcases Nat.lt_or_ge j bs.length with hj | hj
    · obtain ⟨b, off, rfl, hbR, hb⟩ := hr.byte hj
      have hdr := drop_at hj
      generalize hcc : bs[j] = c at hb hdr
      have HD := hide hdr
      clear hdr hcc
      have hd : decide (j < bs.length) = true := by simpa using hj
      by_cases h59 : c.toNat = 59
      · have e1 : ((c.toNat : Int) != 59) = false := by simp [h59]
        have e2 : ((c.toNat : Int) == 59) = true := by simp [h59]
        have H59 := hide h59
        clear h59
        go_wp2_with fail
        go_quiet (fail)
        go_wp2_with fail
        go_quiet (fail)
        go_wp2_with (go_at_call 40; refine (run_any (hr.drewN _) _ lineB isInLine_any isInLine_enters).mono ?_; rintro e w' ⟨rfl, hr', hg'⟩)
        have hc := H59.out
        have hl : lineB c = true := by simp [lineB, hc]
        have hb : blankB c = false := by simp [blankB, hc]
        have hD := HD.out
        have hS := HS.out
        have hk := HK.out
        have hsl := skip_line (bs.drop (j + 1))
        rw [hD, List.takeWhile_cons, hl, if_pos rfl, List.length_cons] at hr'
        rw [hD] at hS
        simp only [skipS, hb, hc, Bool.false_eq_true, if_false, beq_self_eq_true, if_true] at hS
        rw [hsl, List.drop_drop] at hS
        generalize hn : ((bs.drop (j + 1)).takeWhile lineB).length = n at *
        go_roundg (bs.length - (j + (n + 1)))
        case measure => omega
        case rel =>
          refine ⟨j + (n + 1), rfl, by omega, ?_, hr', only_trans (only_drewN hg _) hg'⟩
          rw [show j + (n + 1) = j + 1 + n by omega]
          omega
      · have e1 : ((c.toNat : Int) != 59) = true := by simp; omega
        have e2 : ((c.toNat : Int) == 59) = false := by simp; omega
        have H59 := hide h59
        clear h59
        cases hbl : blankB c
        · go_wp2_with fail
          go_quiet (fail)
          go_wp2_with fail
          go_quiet (fail)
          go_wp2_with (go_at_call 39; refine (isBlank_any c _).mono ?_; rintro e w' ⟨rfl, rfl⟩)
          have hS := HS.out
          rw [HD.out] at hS
          have hc := H59.out
          simp [skipS, hbl, hc] at hS
          refine bodyPost_ret (results_none rfl _ _ _) rfl ⟨rfl, ?_, only_drewN hg _⟩
          rw [← hS]
          exact hr.drewN _
        · go_wp2_with fail
          go_quiet (fail)
          go_wp2_with fail
          go_quiet (fail)
          go_wp2_with (go_at_call 39; refine (isBlank_any c _).mono ?_; rintro e w' ⟨rfl, rfl⟩)
          have hk := HK.out
          go_roundg (bs.length - (j + 1))
          case measure => omega
          case rel =>
            have hS := HS.out
            rw [HD.out] at hS
            simp only [skipS, hbl, if_true] at hS
            exact ⟨j + 1, rfl, by omega, by omega, (hr.drewN _).move (by omega) (by omega), only_setCell (only_drewN hg _) (.inl rfl) _⟩
    · have hd : decide (j < bs.length) = false := by simpa using hj
      go_wp2_with fail
      go_quiet (fail)
      go_wp2
      go_end0
      have hS := HS.out
      rw [List.drop_of_length_le (by omega)] at hS
      simp only [skipS, Nat.add_zero] at hS
      rw [← hS]
      exact ⟨rfl, hr.drewN _, only_drewN hg _⟩
end Go.Proofs.YtajlibegalbbmaaDoor
