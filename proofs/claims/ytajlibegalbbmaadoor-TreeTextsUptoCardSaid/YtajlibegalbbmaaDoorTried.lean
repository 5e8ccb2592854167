/- token.tried, by its contract. -/
import Derived.Test.YtajlibegalbbmaaDoorAsk
import Derived.Test.YtajlibegalbbmaaDoorWordLaw2
import Derived.Test.YtajlibegalbbmaaDoorCutRes
import Derived.Laws.IdiomStrings
namespace Go.Proofs.YtajlibegalbbmaaDoor
open Go.RowKit

/-- A token by value. -/
def tokAgg (k : Int) (t : List UInt8) (a : Int) : Value := .agg #[.int .i64 k, .string ⟨t.toArray⟩, .int .i64 a]
/-- What a word's function answers. -/
def wordRes (o : Option (List UInt8)) : Value := .tuple #[.string ⟨(o.getD []).toArray⟩, .bool o.isSome]

theorem txt_bytes (w : World) (bs : List UInt8) (cap : Nat) (fr : Nat × Nat) : Txt (w.alloc (.cells (bytesRow ⟨bs.toArray⟩ cap) 5 fr)) (w.alloc (.cells (bytesRow ⟨bs.toArray⟩ cap) 5 fr)).heap.size (some ⟨w.heap.size, 0, none⟩) bs := by
  intro _
  refine ⟨w.heap.size, 0, rfl, by simp, fun i hi => ?_⟩
  rw [World.cell?_alloc_mark]
  rw [bytesRow, Array.getElem?_append_left (by simpa using hi)]
  simp [List.getElem?_eq_getElem hi]

theorem below_drewN {B : Nat} {w w' : World} (h : Below B w w') (n : Nat) : Below B w (w'.drewN n) := ⟨h.os, h.tape, h.output, h.size, h.block⟩
theorem Txt.drew' {w : World} {B : Nat} {ta : Option Addr} {bs : List UInt8} (h : Txt w B ta bs) : Txt w.drew B ta bs := h

set_option maxHeartbeats 1600000 in
theorem tried_any (k : Int) (t : List UInt8) (a : Int) (s : List UInt8) (w : World) (hs : s.length ≤ 16777216) :
    Calls Tryd.prog 23 #[tokAgg k t a, .string ⟨s.toArray⟩] w fun e w' => e = .returned (wordRes (if triedT k t s then some s else none)) ∧ Below w.heap.size w w' := by
  have kb := fun (w : World) (s : ByteArray) => run_bytes_of_string (P := Tryd.prog) w 9 24 5 s Tryd.underlying9 Tryd.underlying24 Tryd.underlying5
  generalize hr : wordRes (if triedT k t s then some s else none) = r
  have HR := hide hr
  clear hr
  unfold tokAgg
  go_enter Tryd.func23, Tryd.ntmps23
  go_wp2_with fail
  generalize hcap : grownCap _ s.length 0 5 = cap
  have hle : s.length ≤ cap := by rw [← hcap]; exact grownCap_ge _ _ _ _
  clear hcap kb
  have hB : Below w.heap.size w (((w.alloc (.cells #[.int .i64 k, .string ⟨t.toArray⟩, .int .i64 a] 23)).alloc (.cells (bytesRow ⟨s.toArray⟩ cap) 5 ((bytesRow ⟨s.toArray⟩ cap).size, (bytesRow ⟨s.toArray⟩ cap).size + 1))).drew) := (((Below.refl _ _).alloc (Nat.le_refl _) _).alloc (by simp) _).drew
  have tx : Txt (((w.alloc (.cells #[.int .i64 k, .string ⟨t.toArray⟩, .int .i64 a] 23)).alloc (.cells (bytesRow ⟨s.toArray⟩ cap) 5 ((bytesRow ⟨s.toArray⟩ cap).size, (bytesRow ⟨s.toArray⟩ cap).size + 1))).drew) (((w.alloc (.cells #[.int .i64 k, .string ⟨t.toArray⟩, .int .i64 a] 23)).alloc (.cells (bytesRow ⟨s.toArray⟩ cap) 5 ((bytesRow ⟨s.toArray⟩ cap).size, (bytesRow ⟨s.toArray⟩ cap).size + 1))).drew).heap.size (some ⟨w.heap.size + 1, 0, none⟩) s := by
    have := txt_bytes (w.alloc (.cells #[.int .i64 k, .string ⟨t.toArray⟩, .int .i64 a] 23)) s cap ((bytesRow ⟨s.toArray⟩ cap).size, (bytesRow ⟨s.toArray⟩ cap).size + 1)
    simp only [World.size_alloc] at this
    simp only [World.size_drew, World.size_alloc]
    exact this.drew'
  have hb : Blk (((w.alloc (.cells #[.int .i64 k, .string ⟨t.toArray⟩, .int .i64 a] 23)).alloc (.cells (bytesRow ⟨s.toArray⟩ cap) 5 ((bytesRow ⟨s.toArray⟩ cap).size, (bytesRow ⟨s.toArray⟩ cap).size + 1))).drew) w.heap.size 23 #[.int .i64 k, .string ⟨t.toArray⟩, .int .i64 a] := ((Blk.new w _ _).alloc _).drew
  generalize ((w.alloc (.cells #[.int .i64 k, .string ⟨t.toArray⟩, .int .i64 a] 23)).alloc (.cells (bytesRow ⟨s.toArray⟩ cap) 5 ((bytesRow ⟨s.toArray⟩ cap).size, (bytesRow ⟨s.toArray⟩ cap).size + 1))).drew = W at hB tx hb ⊢
  refine (read_any _ _ cap s _ tx hle hs).mono ?_
  intro e w1 hpost
  obtain ⟨hb1, la, lc, rfl, hrow, hlenT, _⟩ := read_sum hpost
  have hB1 : Below w.heap.size w w1 := hB.trans (hb1.mono hB.size)
  have hbk := hb.below hb1 hb.lt
  clear hb hB tx hb1 hpost
  unfold faultAgg
  have hBf : ∀ c f, Below w.heap.size w (w1.alloc (.cells #[.int .i64 c, .int .i64 f] 31)) := fun c f => hB1.alloc hB1.size _
  cases hx : lex s with
  | error o =>
    have hno : triedT k t s = false := by unfold triedT; rw [hx]
    have HNO := hide hno
    clear hno
    rw [res_err (by omega) hx]
    simp only
    go_wp2_with fail
    go_ret2
    exact ⟨by rw [← HR.out, HNO.out]; rfl, hBf _ _⟩
  | ok l =>
    rw [res_ok (by omega) hx] at hrow hlenT ⊢
    simp only at hrow hlenT ⊢
    by_cases hl : l.length = 1
    · obtain ⟨⟨k', t', p'⟩, rfl⟩ := List.length_eq_one_iff.1 hl
      have hyes : triedT k t s = (decide ((k' : Int) = k) && decide (t' = t)) := by unfold triedT; rw [hx]
      have HY := hide hyes
      clear hyes hx hl
      obtain ⟨b, off, rfl, hc⟩ := hrow (by simp)
      obtain ⟨x0, x1, -⟩ := hc 0 (by simp)
      simp at x0 x1
      obtain ⟨y0, y1, -, -⟩ := hbk.c3
      have hlt := hbk.lt
      have hbl := World.block_lt_of_cell? w1 _ x0
      simp at hbl
      clear hc hbk
      by_cases hk : (k' : Int) = k
      · by_cases ht : t' = t
        · subst hk ht
          go_wp2_with fail
          go_quiet (fail)
          go_wp2_with fail
          go_ret2
          exact ⟨by rw [← HR.out, HY.out]; simp [wordRes], below_drewN (hBf _ _) _⟩
        · subst hk
          have ht1 : (t' == t) = false := by simpa using ht
          have ht2 : (t' != t) = true := by simpa using ht
          go_wp2_with fail
          go_quiet (fail)
          go_wp2_with fail
          go_ret2
          exact ⟨by rw [← HR.out, HY.out]; simp [wordRes, ht], below_drewN (hBf _ _) _⟩
      · have hk1 : ((k' : Int) == k) = false := by simpa using hk
        have hk2 : ((k' : Int) != k) = true := by simpa using hk
        go_wp2_with fail
        go_quiet (fail)
        go_wp2_with fail
        go_ret2
        exact ⟨by rw [← HR.out, HY.out]; simp [wordRes, hk], below_drewN (hBf _ _) _⟩
    · have hno : triedT k t s = false := by
        unfold triedT; rw [hx]
        match l, hl with
        | [], _ => rfl
        | [x], h => exact absurd rfl h
        | _ :: _ :: _, _ => rfl
      have HNO := hide hno
      clear hno hx
      have hl1 : ((l.length : Int) == 1) = false := by simpa using (by omega : (l.length : Int) ≠ 1)
      have hl2 : ((l.length : Int) != 1) = true := by simpa using (by omega : (l.length : Int) ≠ 1)
      go_wp2_with fail
      go_ret2
      exact ⟨by rw [← HR.out, HNO.out]; rfl, hBf _ _⟩
end Go.Proofs.YtajlibegalbbmaaDoor
