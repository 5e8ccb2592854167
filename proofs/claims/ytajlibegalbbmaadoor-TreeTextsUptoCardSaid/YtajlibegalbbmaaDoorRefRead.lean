/- The reference's token, Read and Same, by their contracts. -/
import Derived.Test.YtajlibegalbbmaaDoorRefNum
import Derived.Test.YtajlibegalbbmaaDoorRefBits
import Derived.Test.YtajlibegalbbmaaDoorRefBar
import Derived.Test.YtajlibegalbbmaaDoorRefKey
import Derived.Test.YtajlibegalbbmaaDoorRefSym
import Derived.Test.YtajlibegalbbmaaDoorRefQuo
import Derived.Test.YtajlibegalbbmaaDoorRead
namespace Go.Proofs.YtajlibegalbbmaaDoor
open Go.RowKit

theorem rtok_any {w : World} {ta : Option Addr} {cap : Nat} {bs : List UInt8} {p : Nat} (ht : Txt w w.heap.size ta bs) (hfit : bs.length ≤ cap) (hmax : bs.length ≤ 140737488351232) (hp : p < bs.length) :
    Calls Tryd.prog 38 #[.slice ta bs.length cap, .int .i64 (p : Int)] w (RTokPost w p (tokT (bs.drop p))) := by
  have e : tokT (bs.drop p) = if bs[p].toNat == 40 || bs[p].toNat == 41 then parenT (bs.drop p) else if digitB bs[p] then numT (bs.drop p) else if bs[p].toNat == 35 then bitsT (bs.drop p) else if bs[p].toNat == 34 then quoT (bs.drop (p + 1)) [] 1
      else if bs[p].toNat == 58 then keyT (bs.drop p) else if bs[p].toNat == 124 then barT (bs.drop p) else if symB bs[p] then symT (bs.drop p) else .error 0 := by
    rw [drop_at hp]
    rfl
  rw [e]
  clear e
  by_cases h1 : (bs[p].toNat == 40 || bs[p].toNat == 41) = true
  · rw [if_pos h1]
    exact rtok_paren ht hfit hmax hp (by simpa using h1)
  rw [if_neg h1]
  by_cases h2 : digitB bs[p] = true
  · rw [if_pos h2]
    exact rtok_num ht hfit hmax hp h2
  rw [if_neg h2]
  by_cases h3 : (bs[p].toNat == 35) = true
  · rw [if_pos h3]
    exact rtok_bits ht hfit hmax hp (by simpa using h3)
  rw [if_neg h3]
  by_cases h4 : (bs[p].toNat == 34) = true
  · rw [if_pos h4]
    exact rtok_quo ht hfit hmax hp (by simpa using h4)
  rw [if_neg h4]
  by_cases h5 : (bs[p].toNat == 58) = true
  · rw [if_pos h5]
    exact rtok_key ht hfit hmax hp (by simpa using h5)
  rw [if_neg h5]
  by_cases h6 : (bs[p].toNat == 124) = true
  · rw [if_pos h6]
    exact rtok_bar ht hfit hmax hp (by simpa using h6)
  rw [if_neg h6]
  simp at h1 h2 h3 h4 h5 h6
  by_cases h7 : symB bs[p] = true
  · rw [if_pos h7]
    exact rtok_sym ht hfit hmax hp h2 h1.1 h1.2 h3 h4 h6 h5 h7
  · rw [if_neg h7]
    exact rtok_wrong ht hfit hmax hp h2 h1.1 h1.2 h3 h4 h6 h5 (by simpa using h7)

/-- What the reference's Read leaves. -/
def RReadPost (w : World) (most : Int) (bs : List UInt8) (e : Ending) (w' : World) : Prop :=
  Below w.heap.size w w' ∧
  if max most 0 < (bs.length : Int) then e = .returned (.tuple #[.slice none 0 0, .int .i64 4, .int .i64 (max most 0)])
  else match lex bs with
    | .error a => e = .returned (.tuple #[.slice none 0 0, .int .i64 10, .int .i64 (a : Int)])
    | .ok toks => ∃ v, e = .returned (.tuple #[v, .int .i64 0, .int .i64 0]) ∧ w'.ownsRow w.heap.size 23 3 v toks.length (tokCells toks)

def RLoop (w : World) (bs : List UInt8) (k : Nat) (v x : Value) (wr : World) : Prop :=
  ∃ (p f : Nat) (toks : List (Nat × List UInt8 × Nat)), x = .int .i64 (p : Int) ∧ p ≤ bs.length ∧ wr.ownsRow w.heap.size 23 3 v toks.length (tokCells toks) ∧ Below w.heap.size w wr ∧ toks.length ≤ p ∧ bs.length < f + p ∧ lexOn toks (lexFrom bs f p) = lex bs ∧ k = bs.length - p

set_option maxHeartbeats 1600000 in
theorem rread_any (w : World) (ta : Option Addr) (cap : Nat) (bs : List UInt8) (most : Int) (ht : Txt w w.heap.size ta bs) (hfit : bs.length ≤ cap) (hsm : bs.length ≤ 16777216) :
    Calls Tryd.prog 25 #[.slice ta bs.length cap, .int .i64 most] w (RReadPost w most bs) := by
  generalize hP : RReadPost w most bs = Post
  have HP := hide hP
  clear hP
  have key : ∃ m : Int, m = max most 0 ∧ ((most < 0 ∧ m = 0) ∨ (¬ most < 0 ∧ m = most)) := ⟨max most 0, rfl, by omega⟩
  obtain ⟨m, hm, hc⟩ := key
  have HM := hide hm
  clear hm
  by_cases hlim : m < (bs.length : Int)
  · have hl : 0 < bs.length := by omega
    have hd : decide (0 < bs.length) = true := by simpa using hl
    have hn : ¬ bs = [] := by rintro rfl; simp at hl
    rcases hc with ⟨h1, rfl⟩ | ⟨h1, rfl⟩
    all_goals
      go_enter Tryd.func25, Tryd.ntmps25
      go_wp2_with fail
      go_ret3
      rw [← HP.out]
      refine ⟨Below.refl _ _, ?_⟩
      rw [← HM.out, if_pos hlim]
      rfl
  · rcases hc with ⟨h1, rfl⟩ | ⟨h1, rfl⟩
    · go_enter Tryd.func25, Tryd.ntmps25
      go_wp2_with fail
      have hB0 : Below w.heap.size w (w.alloc (.cells #[] 23)) := (Below.refl _ _).alloc (Nat.le_refl _) _
      have o0 := World.ownsRow_made (e := 23) (size := 3) (base := w.heap.size) w #[] 0 (Nat.le_refl _) (Nat.zero_le _) rfl
      generalize hW : w.alloc (.cells #[] 23) = W at hB0 o0 ⊢
      clear hW
      refine (rskip_any W w.heap.size ta cap bs 0 (ht.keep fun k hk => hB0.block k hk) (by omega) (by omega)).mono ?_
      rintro e w' ⟨rfl, rfl⟩
      rw [List.drop_zero, Nat.zero_add]
      have hsk := skip_le false bs
      go_wp2_with fail
      go_loopg [7, 8] (bs.length - skipS false bs) (fun k v x wr => RLoop w bs k v x wr)
      case atStart => exact ⟨skipS false bs, bs.length + 1, [], rfl, hsk, o0, hB0, by simp, by omega, by unfold lex lexOn; split <;> simp_all, rfl⟩
      case round =>
        clear o0 hB0
        obtain ⟨p, f, toks, rfl, hpl, hown, hB, htl, hfl, hlx, hk⟩ := hrel
        have HK := hide hk
        have HX := hide hlx
        clear hk hlx
        obtain ⟨va, vc, rfl⟩ := own_slice hown
        rcases Nat.lt_or_ge p bs.length with hp | hp
        · exact absurd hp (by omega)
        · go_wp2_with fail
          go_ret3
          rw [← HP.out]
          refine ⟨hB, ?_⟩
          rw [← HM.out, if_neg (by omega), lex_end hp HX.out]
          exact ⟨_, rfl, hown⟩
    · go_enter Tryd.func25, Tryd.ntmps25
      go_wp2_with fail
      have hB0 : Below w.heap.size w (w.alloc (.cells #[] 23)) := (Below.refl _ _).alloc (Nat.le_refl _) _
      have o0 := World.ownsRow_made (e := 23) (size := 3) (base := w.heap.size) w #[] 0 (Nat.le_refl _) (Nat.zero_le _) rfl
      generalize hW : w.alloc (.cells #[] 23) = W at hB0 o0 ⊢
      clear hW
      refine (rskip_any W w.heap.size ta cap bs 0 (ht.keep fun k hk => hB0.block k hk) (by omega) (by omega)).mono ?_
      rintro e w' ⟨rfl, rfl⟩
      rw [List.drop_zero, Nat.zero_add]
      have hsk := skip_le false bs
      go_wp2_with fail
      go_loopg [7, 8] (bs.length - skipS false bs) (fun k v x wr => RLoop w bs k v x wr)
      case atStart => exact ⟨skipS false bs, bs.length + 1, [], rfl, hsk, o0, hB0, by simp, by omega, by unfold lex lexOn; split <;> simp_all, rfl⟩
      case round =>
        clear o0 hB0
        obtain ⟨p, f, toks, rfl, hpl, hown, hB, htl, hfl, hlx, hk⟩ := hrel
        have HK := hide hk
        have HX := hide hlx
        clear hk hlx
        obtain ⟨va, vc, rfl⟩ := own_slice hown
        rcases Nat.lt_or_ge p bs.length with hp | hp
        · have tx : Txt wr wr.heap.size ta bs := (ht.keep fun k hk => hB.block k hk).more hB.size
          go_wp2_with fail
          refine (rtok_any tx hfit (by omega) hp).mono ?_
          intro e w1 hpost
          cases hr : tokT (bs.drop p) with
          | error o =>
            rw [hr] at hpost
            obtain ⟨hb, k', t', rfl⟩ := hpost
            have HR := hide hr
            have hge : 0 ≤ (((p + o : Nat)) : Int) := by omega
            clear hr
            unfold tokV
            go_wp2_with fail
            go_ret3
            rw [← HP.out]
            refine ⟨(hB.trans (hb.mono hB.size)).alloc (by have := hB.size; have := hb.size; omega) _, ?_⟩
            rw [← HM.out, if_neg (by omega), lex_bad hp hfl HR.out HX.out]
            rfl
          | ok x =>
            obtain ⟨k, t, n⟩ := x
            rw [hr] at hpost
            obtain ⟨hb, rfl⟩ := hpost
            have hn := tok_pos hr
            obtain ⟨f', hfl', hlx'⟩ := lex_more hp hfl hr HX.out
            have HX' := hide hlx'
            have hle : p + n ≤ bs.length := by
              have := tok_le hr
              rw [List.length_drop] at this
              omega
            have hown1 : w1.ownsRow w.heap.size 23 3 (.slice va toks.length vc) toks.length (tokCells toks) := hown.kept (only_of_below hb none) (by cases va <;> simp [Value.ownBlock])
            have hB1 : Below w.heap.size w w1 := hB.trans (hb.mono hB.size)
            clear hr hown hb hlx' HX
            obtain ⟨i0, hi, hz0, hz1, hz2⟩ := info_parts infoTok
            unfold tokV
            go_wp2_with (at_builtin; refine wpList_append_own _ rfl _ _ 28 rfl w.heap.size 23 i0 (.agg #[.int .i64 0, .string ⟨#[]⟩, .int .i64 0]) 3 32 Tryd.underlying28 hi hz0 hz1 hz2 rfl (by decide) _ _ _ rfl ((hown1.alloc _).alloc _) ⟨w1.heap.size + 1, 0, none⟩ 1 1 [.int .i64 (k : Int), .string ⟨t.toArray⟩, .int .i64 (p : Int)] rfl rfl ?c1 ?c2 ?c3 ?c4 ?c5 ?_)
            case c1 => exact new_cells _ _ _ _ (by simp)
            case c2 => intro u hu; simp at hu; rcases hu with rfl | rfl | rfl <;> rfl
            case c3 => unfold maxLen; omega
            case c4 => omega
            case c5 => have := hB1.size; simp; omega
            intro v' w2 hown' hgrow _
            have hown2 : w2.ownsRow w.heap.size 23 3 v' (toks ++ [(k, t, p)]).length (tokCells (toks ++ [(k, t, p)])) := by
              rw [tokCells_snoc]
              simpa using hown'
            have hgr := grown_of_alloc (grown_of_alloc hgrow)
            have hB2 : Below w.heap.size w w2 := hB1.grown hgr hB1.size (fun g hg => (hown1.lt g hg).1)
            clear hown' hgrow hgr hB1 hown1
            go_wp2_with fail
            refine (rskip_any w2 w.heap.size ta cap bs (p + n) (ht.keep fun k hk => hB2.block k hk) (by omega) hle).mono ?_
            rintro e w' ⟨rfl, rfl⟩
            have hsk2 := skip_le false (bs.drop (p + n))
            rw [List.length_drop] at hsk2
            go_wp2_with fail
            have hk := HK.out
            go_roundg (bs.length - (p + n + skipS false (bs.drop (p + n))))
            case measure => omega
            case rel => exact ⟨_, f', _, rfl, by omega, hown2, hB2, by simp; omega, hfl', HX'.out, rfl⟩
        · go_wp2_with fail
          go_ret3
          rw [← HP.out]
          refine ⟨hB, ?_⟩
          rw [← HM.out, if_neg (by omega), lex_end hp HX.out]
          exact ⟨_, rfl, hown⟩
end Go.Proofs.YtajlibegalbbmaaDoor
