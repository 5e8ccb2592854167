/- tree.word; collatorref05.Text: by their contracts. -/
import Derived.Test.YtajlibegalbbmaaDoorTTextLaw
namespace Go.Proofs.YtajlibegalbbmaaDoor
open Go.RowKit

set_option maxRecDepth 100000 in
set_option maxHeartbeats 1600000 in
theorem tword_any (k : Int) (t : List UInt8) (a : Int) (w : World) (m : Int) (hm : w.cell? ⟨0, 0, none⟩ = some (.int .i64 m)) (ht : t.length ≤ 4000000) :
    Calls Tryd.prog 32 #[tokAgg k t a] w fun e w' => e = .returned (wordRes (wordK (k, t, a))) ∧ Below w.heap.size w w' := by
  generalize hP : (fun (e : Ending) (w' : World) => e = .returned (wordRes (wordK (k, t, a))) ∧ Below w.heap.size w w') = Post
  have HP := hide hP
  clear hP
  obtain ⟨W, hW⟩ : ∃ W, w.alloc (.cells #[.int .i64 k, .string ⟨t.toArray⟩, .int .i64 a] 23) = W := ⟨_, rfl⟩
  have hb : Below w.heap.size w W := by rw [← hW]; exact (Below.refl _ _).alloc (Nat.le_refl _) _
  have b1 : Blk W w.heap.size 23 #[.int .i64 k, .string ⟨t.toArray⟩, .int .i64 a] := by rw [← hW]; exact Blk.new w _ _
  have HW := hide hW
  clear hW
  obtain ⟨c0, c1, c2, -⟩ := b1.c3
  replace hm := ck hb hm
  unfold tokAgg
  go_enter Tryd.func32, Tryd.ntmps32
  go_upto_region 1 with (fail)
  rw [HW.out]
  clear HW
  by_cases h1 : k = 1
  · subst h1
    go_wp2_with fail
    refine (show Post (.returned (.tuple #[.string ⟨#[]⟩, .bool false])) W from ?_)
    rw [← HP.out]
    exact ⟨by simp [wordK, wordRes], hb⟩
  · have e1 : (k == 1) = false := beq_eq_false_iff_ne.2 h1
    by_cases h2 : k = 2
    · subst h2
      go_wp2_with fail
      refine (show Post (.returned (.tuple #[.string ⟨#[]⟩, .bool false])) W from ?_)
      rw [← HP.out]
      exact ⟨by simp [wordK, wordRes], hb⟩
    · have e2 : (k == 2) = false := beq_eq_false_iff_ne.2 h2
      have hk : wordK (k, t, a) = wordT k t := by simp [wordK, h1, h2]
      rw [hk] at HP
      clear hk
      go_wp2_with fail
      refine (word_any k t a W m hm ht).mono ?_
      rintro e w' ⟨rfl, hb1⟩
      have H1 := hide hb1
      clear hb1
      generalize wordT k t = o at HP ⊢
      unfold wordRes at HP ⊢
      go_wp2_with fail
      refine (show Post (.returned (.tuple #[.string ⟨(o.getD []).toArray⟩, .bool o.isSome])) w' from ?_)
      rw [← HP.out]
      exact ⟨rfl, hb.trans (H1.out.mono hb.size)⟩

set_option maxRecDepth 100000 in
set_option maxHeartbeats 1600000 in
/-- The document's text of a tree. -/
theorem rtext_any : ∀ (t : Tr) (ka : Option Addr) (cap : Nat) (w : World), SmallT 4000000 t → t.kids.length ≤ cap → CapOk ka cap → RepK w (fun _ => True) t.kids ka → t.size ≤ 1000000 →
    Calls Tryd.prog 19 #[trV t.l t.tk ka t.kids.length cap] w fun e w' => e = .returned (wordRes (textT t)) ∧ Below w.heap.size w w' := by
  refine Tr.ind fun l tk kids ih => ?_
  intro ka cap w hs hc hm hr hsz
  obtain ⟨hst, hsk⟩ := allT_kids hs
  simp only [Tr.l, Tr.tk, Tr.kids] at hc hm hr hst hsk ⊢
  generalize hP : (fun (e : Ending) (w' : World) => e = .returned (wordRes (textT (Tr.mk l tk kids))) ∧ Below w.heap.size w w') = Post
  have HP := hide hP
  clear hP
  obtain ⟨k, tx, a⟩ := tk
  obtain ⟨W, hW⟩ : ∃ W, w.alloc (.cells #[.bool l, .int .i64 k, .string ⟨tx.toArray⟩, .int .i64 a, .slice ka kids.length cap] tT) = W := ⟨_, rfl⟩
  have hb : Below w.heap.size w W := by rw [← hW]; exact (Below.refl _ _).alloc (Nat.le_refl _) _
  have b1 : Blk W w.heap.size tT #[.bool l, .int .i64 k, .string ⟨tx.toArray⟩, .int .i64 a, .slice ka kids.length cap] := by rw [← hW]; exact Blk.new w _ _
  have HW := hide hW
  clear hW
  replace hr := hr.below hb
  have h63 : kids.length ≤ maxLen := Nat.le_trans hc hm.1
  unfold maxLen at h63
  simp only [trV]
  go_enter Tryd.func19, Tryd.ntmps19
  go_upto_region 1 with (fail)
  rw [HW.out]
  clear HW
  obtain ⟨c0, c1, c2, c3, c4⟩ := b1.c5
  cases l with
  | false =>
    have hq : textT (Tr.mk false (k, tx, a) kids) = wordK (k, tx, a) := by simp [textT]
    rw [hq] at HP
    clear hq
    by_cases h1 : k = 1
    · subst h1
      go_wp2_with fail
      refine (show Post (.returned (.tuple #[.string ⟨#[]⟩, .bool false])) W from ?_)
      rw [← HP.out]
      exact ⟨by simp [wordK, wordRes], hb⟩
    · have e1 : (k == 1) = false := beq_eq_false_iff_ne.2 h1
      by_cases h2 : k = 2
      · subst h2
        go_wp2_with fail
        refine (show Post (.returned (.tuple #[.string ⟨#[]⟩, .bool false])) W from ?_)
        rw [← HP.out]
        exact ⟨by simp [wordK, wordRes], hb⟩
      · have e2 : (k == 2) = false := beq_eq_false_iff_ne.2 h2
        have hk : wordK (k, tx, a) = wordT k tx := by simp [wordK, h1, h2]
        rw [hk] at HP
        clear hk
        go_wp2_with fail
        refine (rword_any k tx a W hst).mono ?_
        rintro e w' ⟨rfl, hb1⟩
        have H1 := hide hb1
        clear hb1
        generalize wordT k tx = o at HP ⊢
        unfold wordRes at HP ⊢
        go_wp2_with fail
        refine (show Post (.returned (.tuple #[.string ⟨(o.getD []).toArray⟩, .bool o.isSome])) w' from ?_)
        rw [← HP.out]
        exact ⟨rfl, hb.trans (H1.out.mono hb.size)⟩
  | true =>
    have hsk2 : (Tr.mk true (k, tx, a) kids).size = 2 + sizes kids := by simp [Tr.size]
    rw [hsk2] at hsz
    rw [text_list] at HP
    have hlen := fun (q : Tr) (hq : q ∈ kids) (s : List UInt8) (h : textT q = some s) => text_len (n := 4000000) (M := 10000000) (by decide) q (allL_at hsk q hq) s h
    go_wp2_with fail
    go_loopg [4, 5] kids.length (fun k v4 v5 wr => ∃ (i : Nat) (o : List UInt8), i + k = kids.length ∧ v5 = .int .i64 (i : Int) ∧ v4 = .string ⟨(40 :: o).toArray⟩ ∧ Hid (textsT true (kids.take i) = some o) ∧ o.length ≤ 10000000 * sizes (kids.take i) ∧ Below W.heap.size W wr)
    case atStart => exact ⟨0, [], by omega, rfl, rfl, hide rfl, by simp, Below.refl _ _⟩
    case round =>
      obtain ⟨i, o, hik, rfl, rfl, HO, hol, hbr⟩ := hrel
      replace c4 := ck hbr c4
      have HI := hide hik
      rcases Nat.lt_or_ge i kids.length with hi | hi
      · obtain ⟨b, off, rfl, -, -, ia, ic, m1, m2, m3, x0, x1, x2, x3, x4⟩ := (hr.below hbr).at hi
        have hc1 := ih kids[i] (List.getElem_mem hi) ia ic wr (allL_at hsk _ (List.getElem_mem hi)) m1 m2 m3
        have ht := sizes_take hi
        have hp := sizes_part kids (i + 1)
        have hst := fun s h => texts_step (s := s) hi HO.out h
        have hno := fun (hx : textT kids[i] = none) => texts_none hx kids true (List.getElem_mem hi)
        have hln := hlen kids[i] (List.getElem_mem hi)
        have h1 := hc1 (by omega)
        clear hik ih hlen hc1 hs hr hsk
        have i1 : (0 : Int) ≤ (i : Int) := by omega
        have i2 : (i : Int) < (kids.length : Int) := by omega
        generalize kids[i] = q at h1 ht m1 m2 m3 x0 x1 x2 x3 x4 hst hno hln
        have HS := hide hst
        have HN := hide hno
        clear hst hno
        cases hx : textT q with
        | none =>
          rw [hx] at h1
          unfold wordRes at h1
          have HF := hide (HN.out hx)
          go_wp2_with (go_at_call 19; refine h1.mono ?_; rintro e wN ⟨rfl, hb1⟩)
          refine (show Post (.returned (.tuple #[.string ⟨#[]⟩, .bool false])) wN from ?_)
          rw [← HP.out, HF.out]
          exact ⟨rfl, hb.trans ((hbr.trans (hb1.mono hbr.size)).mono hb.size)⟩
        | some s =>
          rw [hx] at h1
          unfold wordRes at h1
          have hsl := hln s hx
          have HT := hide (HS.out s hx)
          clear hx
          rw [ht] at hp
          by_cases hi0 : i = 0
          · have e3 : decide (0 < i) = false := decide_eq_false (by omega)
            have hend : ∀ wN : World, Below wr.heap.size wr wN → Hid (textsT true (kids.take (i + 1)) = some (o ++ ([] ++ s))) ∧ (o ++ ([] ++ s)).length ≤ 10000000 * sizes (kids.take (i + 1)) ∧ Below W.heap.size W wN := fun wN hb1 => ⟨hide (by have h := HT.out; rw [if_pos hi0] at h; exact h), by rw [ht]; simp; omega, hbr.trans (hb1.mono hbr.size)⟩
            replace hi0 := hide hi0
            clear HT HS HN hln
            go_wp2_with (go_at_call 19; refine h1.mono ?_; rintro e wN ⟨rfl, hb1⟩)
            have hik := HI.out
            have hE := hend wN hb1
            go_roundg (gk - 1)
            case measure => omega
            case rel => exact ⟨i + 1, o ++ ([] ++ s), by omega, by go_num, congrArg Value.string (ByteArray.ext (by simp [ByteArray.data_append])), hE⟩
          · have e3 : decide (0 < i) = true := decide_eq_true (by omega)
            have hend : ∀ wN : World, Below wr.heap.size wr wN → Hid (textsT true (kids.take (i + 1)) = some (o ++ ([32] ++ s))) ∧ (o ++ ([32] ++ s)).length ≤ 10000000 * sizes (kids.take (i + 1)) ∧ Below W.heap.size W wN := fun wN hb1 => ⟨hide (by have h := HT.out; rw [if_neg (by omega)] at h; exact h), by rw [ht]; simp; omega, hbr.trans (hb1.mono hbr.size)⟩
            replace hi0 := hide hi0
            clear HT HS HN hln
            go_wp2_with (go_at_call 19; refine h1.mono ?_; rintro e wN ⟨rfl, hb1⟩)
            have hik := HI.out
            have hE := hend wN hb1
            go_roundg (gk - 1)
            case measure => omega
            case rel => exact ⟨i + 1, o ++ ([32] ++ s), by omega, by go_num, congrArg Value.string (ByteArray.ext (by simp [ByteArray.data_append])), hE⟩
      · clear hik ih hlen hs hsk
        obtain rfl : i = kids.length := by have := HI.out; omega
        rw [List.take_length] at HO hol
        go_wp2_with fail
        refine (show Post (.returned (.tuple #[.string (⟨(40 :: o).toArray⟩ ++ ⟨#[41]⟩), .bool true])) wr from ?_)
        rw [← HP.out, HO.out]
        exact ⟨congrArg Ending.returned (by simp only [wrapT, wordRes, Option.getD_some, Option.isSome_some]; congr 3), hb.trans (hbr.mono hb.size)⟩
end Go.Proofs.YtajlibegalbbmaaDoor
