/- The reference's Reserved and skip, by their contracts. -/
import Derived.Test.YtajlibegalbbmaaDoorRefLeaf
namespace Go.Proofs.YtajlibegalbbmaaDoor
open Go.RowKit

theorem words_cell (w : World) (j : Nat) (hj : j < 13) : (w.alloc (.cells #[.string ⟨#[95]⟩, .string ⟨#[33]⟩, .string ⟨#[97, 115]⟩, .string ⟨#[108, 101, 116]⟩, .string ⟨#[101, 120, 105, 115, 116, 115]⟩, .string ⟨#[102, 111, 114, 97, 108, 108]⟩, .string ⟨#[109, 97, 116, 99, 104]⟩, .string ⟨#[112, 97, 114]⟩, .string ⟨#[66, 73, 78, 65, 82, 89]⟩, .string ⟨#[68, 69, 67, 73, 77, 65, 76]⟩, .string ⟨#[72, 69, 88, 65, 68, 69, 67, 73, 77, 65, 76]⟩, .string ⟨#[78, 85, 77, 69, 82, 65, 76]⟩, .string ⟨#[83, 84, 82, 73, 78, 71]⟩] 9)).cell? ⟨w.heap.size, j, none⟩ = some (.string ⟨(words[j]'hj).toArray⟩) := by
  rw [(Blk.new w _ _).cell j]
  match j, hj with
  | 0, _ => rfl
  | 1, _ => rfl
  | 2, _ => rfl
  | 3, _ => rfl
  | 4, _ => rfl
  | 5, _ => rfl
  | 6, _ => rfl
  | 7, _ => rfl
  | 8, _ => rfl
  | 9, _ => rfl
  | 10, _ => rfl
  | 11, _ => rfl
  | 12, _ => rfl
  | n + 13, h => omega

set_option maxHeartbeats 800000 in
theorem rreserved_any (t : List UInt8) (w : World) : Calls Tryd.prog 62 #[.string ⟨t.toArray⟩] w fun e w' => e = .returned (.bool (isWord t)) ∧ Below w.heap.size w w' := by
  go_enter Tryd.func62, Tryd.ntmps62
  go_wp2_with fail
  have hcell := words_cell w
  have hbel : Below w.heap.size w (w.alloc (.cells #[.string ⟨#[95]⟩, .string ⟨#[33]⟩, .string ⟨#[97, 115]⟩, .string ⟨#[108, 101, 116]⟩, .string ⟨#[101, 120, 105, 115, 116, 115]⟩, .string ⟨#[102, 111, 114, 97, 108, 108]⟩, .string ⟨#[109, 97, 116, 99, 104]⟩, .string ⟨#[112, 97, 114]⟩, .string ⟨#[66, 73, 78, 65, 82, 89]⟩, .string ⟨#[68, 69, 67, 73, 77, 65, 76]⟩, .string ⟨#[72, 69, 88, 65, 68, 69, 67, 73, 77, 65, 76]⟩, .string ⟨#[78, 85, 77, 69, 82, 65, 76]⟩, .string ⟨#[83, 84, 82, 73, 78, 71]⟩] 9)) := (Below.refl _ _).alloc (Nat.le_refl _) _
  generalize hW : w.alloc (.cells #[.string ⟨#[95]⟩, .string ⟨#[33]⟩, .string ⟨#[97, 115]⟩, .string ⟨#[108, 101, 116]⟩, .string ⟨#[101, 120, 105, 115, 116, 115]⟩, .string ⟨#[102, 111, 114, 97, 108, 108]⟩, .string ⟨#[109, 97, 116, 99, 104]⟩, .string ⟨#[112, 97, 114]⟩, .string ⟨#[66, 73, 78, 65, 82, 89]⟩, .string ⟨#[68, 69, 67, 73, 77, 65, 76]⟩, .string ⟨#[72, 69, 88, 65, 68, 69, 67, 73, 77, 65, 76]⟩, .string ⟨#[78, 85, 77, 69, 82, 65, 76]⟩, .string ⟨#[83, 84, 82, 73, 78, 71]⟩] 9) = W at hcell hbel ⊢
  clear hW
  have HC := hide hcell
  clear hcell
  go_loopg [4] 13 (fun k i wr => ∃ j : Nat, j + k = 13 ∧ i = .int .i64 (j : Int) ∧ W = wr ∧ t ∉ words.take j)
  case atStart => exact ⟨0, rfl, rfl, rfl, by simp⟩
  case round =>
    obtain ⟨j, hj, rfl, rfl, hn⟩ := hrel
    have HN := hide hn
    clear hn
    by_cases hlt : j < 13
    · have hc := HC.out j hlt
      have hjl : j ≤ 12 := by omega
      have hmem : words[j]'hlt ∈ words := List.getElem_mem _
      have htk := List.take_succ_eq_append_getElem (l := words) (i := j) hlt
      generalize hu : words[j]'hlt = u at hc hmem htk
      have HM := hide hmem
      have HT := hide htk
      clear hu hmem htk
      by_cases hq : u = t
      · have e1 : (u == t) = true := by simpa using hq
        have HQ := hide hq
        clear hq
        go_wp2_with fail
        go_ret
        refine ⟨ret_bool ?_, hbel⟩
        have := HM.out
        rw [HQ.out] at this
        simp [isWord, this]
      · have e1 : (u == t) = false := by simpa using hq
        have HQ := hide hq
        clear hq
        go_wp2_with fail
        go_roundg (13 - (j + 1))
        case measure => omega
        case rel =>
          refine ⟨j + 1, by omega, by go_num, rfl, ?_⟩
          rw [HT.out, List.mem_append]
          rintro (h | h)
          · exact HN.out h
          · rw [List.mem_singleton] at h
            exact HQ.out h.symm
    · have hj17 : j = 13 := by omega
      subst hj17
      go_wp2_with fail
      go_ret
      refine ⟨ret_bool ?_, hbel⟩
      have : t ∉ words := HN.out
      simp [isWord, this]

/-- The bytes at a slice: what the reference's functions are handed. -/
theorem Txt.byte {w : World} {B : Nat} {ta : Option Addr} {bs : List UInt8} (h : Txt w B ta bs) {j : Nat} (hj : j < bs.length) : ∃ b off, ta = some ⟨b, off, none⟩ ∧ b < B ∧ w.cell? ⟨b, off + j, none⟩ = some (.int .u8 (bs[j].toNat : Int)) := by
  obtain ⟨b, off, e, hb, hc⟩ := h (by omega)
  exact ⟨b, off, e, hb, hc j hj⟩

def SkipRel (w : World) (bs : List UInt8) (p : Nat) (k : Nat) (v : Value) (wr : World) : Prop :=
  ∃ j : Nat, k = bs.length - j ∧ v = .int .i64 (j : Int) ∧ w = wr ∧ j ≤ bs.length ∧ j + skipS false (bs.drop j) = p + skipS false (bs.drop p)
def LineRel (w : World) (bs : List UInt8) (p : Nat) (k : Nat) (v : Value) (wr : World) : Prop :=
  ∃ j : Nat, k = bs.length - j ∧ v = .int .i64 (j : Int) ∧ w = wr ∧ p ≤ j ∧ j ≤ bs.length ∧ (j = p ∨ p < j ∧ j + skipS true (bs.drop j) = p + 1 + skipS true (bs.drop (p + 1)))

theorem ret_nat {k : IntKind} {a b : Nat} (h : a = b) : Ending.returned (.int k (a : Int)) = .returned (.int k (b : Int)) := by rw [h]

set_option maxHeartbeats 1600000 in
theorem rskip_any (w : World) (B : Nat) (ta : Option Addr) (cap : Nat) (bs : List UInt8) (p : Nat) (ht : Txt w B ta bs) (hm : bs.length ≤ 140737488351232) (hp : p ≤ bs.length) :
    Calls Tryd.prog 37 #[.slice ta bs.length cap, .int .i64 (p : Int)] w fun e w' => e = .returned (.int .i64 ((p + skipS false (bs.drop p) : Nat) : Int)) ∧ w = w' := by
  go_enter Tryd.func37, Tryd.ntmps37
  go_wp2_with fail
  go_loopg [1] (bs.length - p) (fun k v wr => SkipRel w bs p k v wr)
  case atStart => exact ⟨p, rfl, rfl, rfl, hp, rfl⟩
  case round =>
    obtain ⟨j, hk, rfl, rfl, hj, hs⟩ := hrel
    have HK := hide hk
    have HS := hide hs
    clear hk hs
    rcases Nat.lt_or_ge j bs.length with hlt | hge
    · obtain ⟨b, off, rfl, hbB, hb⟩ := ht.byte hlt
      have hD := drop_at hlt
      generalize bs[j] = c at hb hD
      have HD := hide hD
      clear hD
      cases hbl : blankB c
      · by_cases h59 : c.toNat = 59
        · have e1 : ((c.toNat : Int) == 59) = true := by simp [h59]
          have H59 := hide h59
          clear h59
          go_wp2_with (go_at_call 57; refine (rblank_any c _).mono ?_; rintro e w' ⟨rfl, rfl⟩)
          have hS := HS.out
          have hc := H59.out
          rw [HD.out] at hS
          simp only [skipS, hbl, Bool.false_eq_true, if_false, hc, beq_self_eq_true, if_true] at hS
          have HS2 := hide hS
          clear hS hc
          go_loopg [1] (bs.length - j) (fun k v wr => LineRel w bs j k v wr)
          case atStart => exact ⟨j, rfl, rfl, rfl, Nat.le_refl _, hj, .inl rfl⟩
          case round =>
            rename_i gk0 _ _ _ _ _
            obtain ⟨i, hik, rfl, rfl, hji, hil, hi⟩ := hrel
            have HIK := hide hik
            have HI := hide hi
            clear hik hi
            rcases Nat.lt_or_ge i bs.length with hilt | hige
            · obtain ⟨b2, off2, hbe2, _, hb2⟩ := ht.byte hilt
              injection hbe2 with hbe2
              injection hbe2 with hbe2 hoe2
              subst hbe2 hoe2
              have hD2 := drop_at hilt
              have hij : i = j → bs[i] = c := by
                rintro rfl
                have := HD.out
                rw [hD2] at this
                injection this
              generalize bs[i] = d at hb2 hD2 hij
              have HD2 := hide hD2
              have HIJ := hide hij
              clear hD2 hij
              by_cases h10 : d.toNat = 10
              · have e2 : ((d.toNat : Int) != 10) = false := by simp [h10]
                have H10 := hide h10
                clear h10
                go_wp2_with fail
                have hi := HI.out
                have hd := H10.out
                have hk := HK.out
                have hS := HS2.out
                have hne : i ≠ j := by
                  intro h
                  have h1 := HIJ.out h
                  have h2 := H59.out
                  rw [h1] at hd
                  omega
                go_roundg (bs.length - i)
                case measure => omega
                case rel =>
                  refine ⟨i, rfl, rfl, rfl, hil, ?_⟩
                  rcases hi with h | ⟨h1, h2⟩
                  · exact absurd h hne
                  · rw [HD2.out] at h2 ⊢
                    simp only [skipS, hd, beq_self_eq_true, if_true] at h2
                    have hb : blankB d = true := by simp [blankB, hd]
                    simp only [skipS, hb, if_true]
                    omega
              · have e2 : ((d.toNat : Int) != 10) = true := by simp; omega
                have H10 := hide h10
                clear h10
                go_wp2_with fail
                have hi := HI.out
                have hd := H10.out
                have hk := HIK.out
                go_roundg (bs.length - (i + 1))
                case measure => omega
                case rel =>
                  refine ⟨i + 1, rfl, by go_num, rfl, by omega, by omega, .inr ⟨by omega, ?_⟩⟩
                  rcases hi with rfl | ⟨h1, h2⟩
                  · rfl
                  · rw [HD2.out] at h2
                    simp only [skipS, beq_iff_eq, hd, if_false] at h2
                    omega
            · go_wp2_with fail
              have hi := HI.out
              have hk := HK.out
              have hS := HS2.out
              go_roundg (bs.length - i)
              case measure => omega
              case rel =>
                refine ⟨i, rfl, rfl, rfl, hil, ?_⟩
                rcases hi with h | ⟨h1, h2⟩
                · omega
                · rw [List.drop_of_length_le (show bs.length ≤ i by omega)] at h2 ⊢
                  simp only [skipS] at h2 ⊢
                  omega
        · have e1 : ((c.toNat : Int) == 59) = false := by simp; omega
          have H59 := hide h59
          clear h59
          go_wp2_with (go_at_call 57; refine (rblank_any c _).mono ?_; rintro e w' ⟨rfl, rfl⟩)
          go_ret
          have hS := HS.out
          have hc := H59.out
          rw [HD.out] at hS
          simp only [skipS, hbl, Bool.false_eq_true, if_false, beq_iff_eq, hc, Nat.add_zero] at hS
          exact ⟨ret_nat hS, rfl⟩
      · go_wp2_with (go_at_call 57; refine (rblank_any c _).mono ?_; rintro e w' ⟨rfl, rfl⟩)
        have hk := HK.out
        have hS := HS.out
        rw [HD.out] at hS
        simp only [skipS, hbl, if_true] at hS
        go_roundg (bs.length - (j + 1))
        case measure => omega
        case rel => exact ⟨j + 1, rfl, by go_num, rfl, by omega, by omega⟩
    · go_wp2_with fail
      go_ret
      have hS := HS.out
      rw [List.drop_of_length_le hge] at hS
      simp only [skipS, Nat.add_zero] at hS
      exact ⟨ret_nat hS, rfl⟩
end Go.Proofs.YtajlibegalbbmaaDoor
