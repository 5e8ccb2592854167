/- The reference's token, by its contract: one theorem for each kind of first byte. -/
import Derived.Test.YtajlibegalbbmaaDoorRefSkip
import Derived.Test.YtajlibegalbbmaaDoorNumber
import Derived.Deep.CutBlock
import Derived.Deep.CutRange
namespace Go.Proofs.YtajlibegalbbmaaDoor
open Go.RowKit

/-- What the reference's token leaves. -/
def RTokPost (w : World) (p : Nat) (r : TokRes) (e : Ending) (w' : World) : Prop :=
  Below w.heap.size w w' ∧ match r with
  | .ok (k, t, n) => e = .returned (.tuple #[tokV k t p, .int .i64 ((p + n : Nat) : Int), .int .i64 (-1)])
  | .error o => ∃ k' t', e = .returned (.tuple #[tokV k' t' p, .int .i64 0, .int .i64 ((p + o : Nat) : Int)])

theorem rpost_ok {w w' : World} {p : Nat} {r : TokRes} {k n q : Nat} {t : List UInt8} (hr : r = .ok (k, t, n)) (hq : q = p + n) (h : Below w.heap.size w w') :
    RTokPost w p r (.returned (.tuple #[tokV k t p, .int .i64 (q : Int), .int .i64 (-1)])) w' := by subst hr hq; exact ⟨h, rfl⟩
theorem rpost_err {w w' : World} {p : Nat} {r : TokRes} {k o q : Nat} {t : List UInt8} (hr : r = .error o) (hq : q = p + o) (h : Below w.heap.size w w') :
    RTokPost w p r (.returned (.tuple #[tokV k t p, .int .i64 0, .int .i64 (q : Int)])) w' := by subst hr hq; exact ⟨h, k, t, rfl⟩

/-- How far a kind of byte goes on. -/
theorem cnt_upto {q : UInt8 → Bool} {bs : List UInt8} {a j : Nat} (haj : a ≤ j) (hj : j ≤ bs.length) (hq : ∀ i, a ≤ i → i < j → isAt q bs i = true) (hs : isAt q bs j = false) : a + cnt q (bs.drop a) = j ∧ (bs.drop a).takeWhile q = (bs.drop a).take (j - a) := by
  have h := takeWhile_at (q := q) (j - a) (bs.drop a) (by simp; omega) (fun i hi => by rw [isAt_drop]; exact hq _ (by omega) (by omega)) (by rw [isAt_drop, show a + (j - a) = j by omega]; exact hs)
  refine ⟨?_, h⟩
  unfold cnt
  rw [h]
  simp
  omega

theorem takeWhile_take {q : UInt8 → Bool} (l : List UInt8) (n : Nat) (h : n = cnt q l := by rfl) : l.takeWhile q = l.take n := by
  subst h
  unfold cnt
  induction l with
  | nil => rfl
  | cons c l ih =>
    cases hc : q c
    · simp [hc]
    · simp [hc]
      exact ih
theorem cnt_zero {q : UInt8 → Bool} {bs : List UInt8} {a : Nat} (h : isAt q bs a = false) : cnt q (bs.drop a) = 0 := by
  rcases Nat.lt_or_ge a bs.length with h2 | h2
  · rw [isAt_lt h2] at h
    have : bs.drop a = bs[a] :: bs.drop (a + 1) := drop_at h2
    unfold cnt
    rw [this, List.takeWhile_cons, h]
    rfl
  · rw [List.drop_of_length_le h2]
    rfl
theorem cnt_some {q : UInt8 → Bool} {bs : List UInt8} {a : Nat} (h : isAt q bs a = true) : 0 < cnt q (bs.drop a) := by
  have h2 := isAt_true_lt h
  rw [isAt_lt h2] at h
  have : bs.drop a = bs[a] :: bs.drop (a + 1) := drop_at h2
  unfold cnt
  rw [this, List.takeWhile_cons, h]
  simp

def SpanRel (W : World) (q : UInt8 → Bool) (bs : List UInt8) (a : Nat) (k : Nat) (v : Value) (wr : World) : Prop :=
  ∃ j : Nat, k = bs.length - j ∧ v = .int .i64 (j : Int) ∧ W = wr ∧ a ≤ j ∧ j ≤ bs.length ∧ ∀ i, a ≤ i → i < j → isAt q bs i = true

section
variable {w : World} {ta : Option Addr} {cap : Nat} {bs : List UInt8} {p : Nat}

def tokW (w : World) (k : Int) (t : List UInt8) (p : Nat) : World := (w.alloc (.cells zeroTok 23)).alloc (.cells #[.int .i64 k, .string ⟨t.toArray⟩, .int .i64 (p : Int)] 23)

theorem tokW_below (w : World) (k : Int) (t : List UInt8) (p : Nat) : Below w.heap.size w (tokW w k t p) := ((Below.refl _ _).alloc (Nat.le_refl _) _).alloc (by simp) _
theorem tokW_txt (ht : Txt w w.heap.size ta bs) (k : Int) (t : List UInt8) (p : Nat) : Txt (tokW w k t p) w.heap.size ta bs := ht.keep fun i hi => (tokW_below w k t p).block i hi

/-- How things stand within the reference's token. -/
structure Rs (w : World) (ta : Option Addr) (bs : List UInt8) (k : Int) (t : List UInt8) (p : Nat) (W : World) : Prop where
  txt : Txt W w.heap.size ta bs
  bel : Below w.heap.size w W
  b4 : Blk W w.heap.size 23 zeroTok
  b7 : Blk W (w.heap.size + 1) 23 #[.int .i64 k, .string ⟨t.toArray⟩, .int .i64 (p : Int)]

theorem tokW_eq (w : World) (k : Int) (t : List UInt8) (p : Nat) : tokW w k t p = (w.alloc (.cells zeroTok 23)).alloc (.cells #[.int .i64 k, .string ⟨t.toArray⟩, .int .i64 (p : Int)] 23) := rfl

theorem Rs.start (ht : Txt w w.heap.size ta bs) (k : Int) (t : List UInt8) (p : Nat) : Rs w ta bs k t p (tokW w k t p) :=
  ⟨tokW_txt ht k t p, tokW_below w k t p, (Blk.new w _ _).alloc _, by
    have := Blk.new (w.alloc (.cells zeroTok 23)) 23 #[.int .i64 k, .string ⟨t.toArray⟩, .int .i64 (p : Int)]
    simpa [tokW] using this⟩
section
variable {k : Int} {t : List UInt8} {W : World}
theorem Rs.text (s : Rs w ta bs k t p W) (t' : List UInt8) : Rs w ta bs k t' p (W.setCell ⟨w.heap.size + 1, 1, none⟩ (.string ⟨t'.toArray⟩)) :=
  ⟨s.txt.keep fun i hi => Below.heap_setCell W _ _ i (by simp; omega), s.bel.setCell (by simp) _, s.b4.far (by simp) _, by simpa using s.b7.set_ 1 (.string ⟨t'.toArray⟩)⟩
theorem Rs.kind (s : Rs w ta bs k t p W) (k' : Int) : Rs w ta bs k' t p (W.setCell ⟨w.heap.size + 1, 0, none⟩ (.int .i64 k')) :=
  ⟨s.txt.keep fun i hi => Below.heap_setCell W _ _ i (by simp; omega), s.bel.setCell (by simp) _, s.b4.far (by simp) _, by simpa using s.b7.set_ 0 (.int .i64 k')⟩
theorem Rs.below {W' : World} (s : Rs w ta bs k t p W) (h : Below W.heap.size W W') : Rs w ta bs k t p W' :=
  ⟨s.txt.keep fun i hi => h.block i (by have := s.bel.size; omega), s.bel.trans (h.mono s.bel.size), s.b4.below h s.b4.lt, s.b7.below h s.b7.lt⟩
theorem Rs.facts (s : Rs w ta bs k t p W) : (W.cell? ⟨w.heap.size, 0, none⟩ = some (.int .i64 0) ∧ W.cell? ⟨w.heap.size, 1, none⟩ = some (.string ⟨#[]⟩) ∧ W.cell? ⟨w.heap.size, 2, none⟩ = some (.int .i64 0) ∧ ∀ i, W.frozen? ⟨w.heap.size, i, none⟩ = false) ∧
    W.cell? ⟨w.heap.size + 1, 0, none⟩ = some (.int .i64 k) ∧ W.cell? ⟨w.heap.size + 1, 1, none⟩ = some (.string ⟨t.toArray⟩) ∧ W.cell? ⟨w.heap.size + 1, 2, none⟩ = some (.int .i64 (p : Int)) ∧ ∀ i, W.frozen? ⟨w.heap.size + 1, i, none⟩ = false :=
  ⟨s.b4.c3, s.b7.c3⟩
theorem Rs.done (s : Rs w ta bs k t p W) (x y z : Value) : Below w.heap.size w (((W.setCell ⟨w.heap.size, 0, none⟩ x).setCell ⟨w.heap.size, 1, none⟩ y).setCell ⟨w.heap.size, 2, none⟩ z) :=
  ((s.bel.setCell (p := ⟨w.heap.size, 0, none⟩) (Nat.le_refl _) _).setCell (p := ⟨w.heap.size, 1, none⟩) (Nat.le_refl _) _).setCell (p := ⟨w.heap.size, 2, none⟩) (Nat.le_refl _) _
end

set_option maxRecDepth 100000 in
set_option maxHeartbeats 3200000 in
theorem rtok_paren (ht : Txt w w.heap.size ta bs) (hfit : bs.length ≤ cap) (hmax : bs.length ≤ 140737488351232) (hp : p < bs.length) (hc : bs[p].toNat = 40 ∨ bs[p].toNat = 41) :
    Calls Tryd.prog 38 #[.slice ta bs.length cap, .int .i64 (p : Int)] w (RTokPost w p (parenT (bs.drop p))) := by
  generalize hP : RTokPost w p (parenT (bs.drop p)) = Post
  have HP := hide hP
  clear hP
  obtain ⟨b, off, rfl, hbR, hb⟩ := ht.byte hp
  have hi : isAt (fun c => c.toNat == 40) (bs.drop p) 0 = (bs[p].toNat == 40) := by rw [isAt_drop, Nat.add_zero, isAt_lt hp]
  have hD := drop_at hp
  have hs := fun w => run_cut w (some ⟨b, off, none⟩) bs.length cap p (p + 1) (p : Int) ((p : Int) + 1) rfl (by omega) (by omega) (by omega)
  rw [show p + 1 - p = 1 by omega] at hs
  have hcv := txt_cut (tokW_eq w 1 [] p ▸ tokW_txt ht 1 [] p) (p := p) (q := p + 1) (cap := cap) (by omega) (by omega) hfit (cap - p)
  have hcv2 := txt_cut (tokW_eq w 2 [] p ▸ tokW_txt ht 2 [] p) (p := p) (q := p + 1) (cap := cap) (by omega) (by omega) hfit (cap - p)
  rw [show p + 1 - p = 1 by omega, hD] at hcv hcv2
  generalize bs[p] = c at hb hi hc hcv hcv2
  clear hD
  have HI := hide hi
  clear hi
  rcases hc with hc | hc
  · have e1 : ((c.toNat : Int) == 40) = true := by simp [hc]
    have e2 : ((c.toNat : Int) == 41) = false := by simp [hc]
    have hcc : c = 40 := UInt8.toNat.inj hc
    have HC := hide hcc
    clear hc hcc
    go_enter Tryd.func38, Tryd.ntmps38
    go_wp2_with fail
    refine bodyPost_ret (v := .tuple #[tokV 1 [c] p, .int .i64 ((p + 1 : Nat) : Int), .int .i64 (-1)]) (by simp [results, Tryd.results38, tokV, go_sem]) rfl ?_
    rw [← HP.out]
    exact rpost_ok (by unfold parenT; rw [HI.out, HC.out]; rfl) rfl (((Below.refl _ _).alloc (Nat.le_refl _) _).alloc (by simp) _)
  · have e1 : ((c.toNat : Int) == 40) = false := by simp [hc]
    have e2 : ((c.toNat : Int) == 41) = true := by simp [hc]
    have hcc : c = 41 := UInt8.toNat.inj hc
    have HC := hide hcc
    clear hc hcc
    go_enter Tryd.func38, Tryd.ntmps38
    go_wp2_with fail
    refine bodyPost_ret (v := .tuple #[tokV 2 [c] p, .int .i64 ((p + 1 : Nat) : Int), .int .i64 (-1)]) (by simp [results, Tryd.results38, tokV, go_sem]) rfl ?_
    rw [← HP.out]
    exact rpost_ok (by unfold parenT; rw [HI.out, HC.out]; rfl) rfl (((Below.refl _ _).alloc (Nat.le_refl _) _).alloc (by simp) _)
end
end Go.Proofs.YtajlibegalbbmaaDoor
