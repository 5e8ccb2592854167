/- The reader's methods that read a token, by their contracts. -/
import Derived.Test.YtajlibegalbbmaaDoorReader
namespace Go.Proofs.YtajlibegalbbmaaDoor
open Go.RowKit

/-- A token as a value. -/
def tokV (k : Nat) (t : List UInt8) (a : Nat) : Value := .agg #[.int .i64 (k : Int), .string ⟨t.toArray⟩, .int .i64 (a : Int)]

/-- What a method that reads a token leaves. -/
def TokPost (w : World) (R : Nat) (ta : Option Addr) (cap : Nat) (bs : List UInt8) (p : Nat) (r : TokRes) (e : Ending) (w' : World) : Prop :=
  w.grownBy w' (some R) ∧ match r with
  | .ok (k, t, n) => e = .returned (tokV k t 0) ∧ Rd w' R ta cap bs (p + n)
  | .error o => e = failed (p + o)

section
variable {w : World} {R : Nat} {ta : Option Addr} {cap : Nat} {bs : List UInt8} {p : Nat}

theorem apart_any (h : Rd w R ta cap bs p) :
    Calls Tryd.prog 65 #[.pointer (some ⟨R, 0, none⟩)] w fun e w' => (e = if isAt symB bs p then failed p else .returned (.tuple #[])) ∧ ∃ m, w' = w.drewN m := by
  cases hc : isAt symB bs p
  · go_enter Tryd.func65, Tryd.ntmps65
    go_wp2_with (go_at_call 63; refine (is_any h _ _ isSymbol_any isSymbol_enters).mono ?_; rintro e w' ⟨rfl, m, rfl⟩)
    go_end0
    exact ⟨rfl, _, rfl⟩
  · go_enter Tryd.func65, Tryd.ntmps65
    go_wp2_with (first | (go_at_call 63; refine (is_any h _ _ isSymbol_any isSymbol_enters).mono ?_; rintro e w' ⟨rfl, m, rfl⟩) | (go_at_call 64; refine (fail_any (h.drewN _)).mono ?_; rintro e w' ⟨rfl, rfl⟩))
    exact ⟨rfl, rfl, _, rfl⟩

theorem wrong_any (h : Rd w R ta cap bs p) : Calls Tryd.prog 51 #[.pointer (some ⟨R, 0, none⟩)] w (TokPost w R ta cap bs p (.error 0)) := by
  go_enter Tryd.func51, Tryd.ntmps51
  go_wp2_with (go_at_call 64; refine (fail_any (h.alloc _)).mono ?_; rintro e w' ⟨rfl, rfl⟩)
  exact ⟨rfl, only_alloc (only_refl _ _) _, rfl⟩

theorem reserved_any (t : List UInt8) (w : World) : Calls Tryd.prog 73 #[.string ⟨t.toArray⟩] w fun e w' => e = .returned (.bool (isWord t)) ∧ w = w' := by
  by_cases h0 : t = [95]
  · subst h0
    go_enter Tryd.func73, Tryd.ntmps73
    go_wp2
    go_ret
    exact ⟨rfl, rfl⟩
  by_cases h1 : t = [33]
  · subst h1
    go_enter Tryd.func73, Tryd.ntmps73
    go_wp2
    go_ret
    exact ⟨rfl, rfl⟩
  by_cases h2 : t = [97, 115]
  · subst h2
    go_enter Tryd.func73, Tryd.ntmps73
    go_wp2
    go_ret
    exact ⟨rfl, rfl⟩
  by_cases h3 : t = [108, 101, 116]
  · subst h3
    go_enter Tryd.func73, Tryd.ntmps73
    go_wp2
    go_ret
    exact ⟨rfl, rfl⟩
  by_cases h4 : t = [101, 120, 105, 115, 116, 115]
  · subst h4
    go_enter Tryd.func73, Tryd.ntmps73
    go_wp2
    go_ret
    exact ⟨rfl, rfl⟩
  by_cases h5 : t = [102, 111, 114, 97, 108, 108]
  · subst h5
    go_enter Tryd.func73, Tryd.ntmps73
    go_wp2
    go_ret
    exact ⟨rfl, rfl⟩
  by_cases h6 : t = [109, 97, 116, 99, 104]
  · subst h6
    go_enter Tryd.func73, Tryd.ntmps73
    go_wp2
    go_ret
    exact ⟨rfl, rfl⟩
  by_cases h7 : t = [112, 97, 114]
  · subst h7
    go_enter Tryd.func73, Tryd.ntmps73
    go_wp2
    go_ret
    exact ⟨rfl, rfl⟩
  by_cases h8 : t = [66, 73, 78, 65, 82, 89]
  · subst h8
    go_enter Tryd.func73, Tryd.ntmps73
    go_wp2
    go_ret
    exact ⟨rfl, rfl⟩
  by_cases h9 : t = [68, 69, 67, 73, 77, 65, 76]
  · subst h9
    go_enter Tryd.func73, Tryd.ntmps73
    go_wp2
    go_ret
    exact ⟨rfl, rfl⟩
  by_cases h10 : t = [72, 69, 88, 65, 68, 69, 67, 73, 77, 65, 76]
  · subst h10
    go_enter Tryd.func73, Tryd.ntmps73
    go_wp2
    go_ret
    exact ⟨rfl, rfl⟩
  by_cases h11 : t = [78, 85, 77, 69, 82, 65, 76]
  · subst h11
    go_enter Tryd.func73, Tryd.ntmps73
    go_wp2
    go_ret
    exact ⟨rfl, rfl⟩
  by_cases h12 : t = [83, 84, 82, 73, 78, 71]
  · subst h12
    go_enter Tryd.func73, Tryd.ntmps73
    go_wp2
    go_ret
    exact ⟨rfl, rfl⟩
  have f0 : (t == [95]) = false := by simpa using h0
  have f1 : (t == [33]) = false := by simpa using h1
  have f2 : (t == [97, 115]) = false := by simpa using h2
  have f3 : (t == [108, 101, 116]) = false := by simpa using h3
  have f4 : (t == [101, 120, 105, 115, 116, 115]) = false := by simpa using h4
  have f5 : (t == [102, 111, 114, 97, 108, 108]) = false := by simpa using h5
  have f6 : (t == [109, 97, 116, 99, 104]) = false := by simpa using h6
  have f7 : (t == [112, 97, 114]) = false := by simpa using h7
  have f8 : (t == [66, 73, 78, 65, 82, 89]) = false := by simpa using h8
  have f9 : (t == [68, 69, 67, 73, 77, 65, 76]) = false := by simpa using h9
  have f10 : (t == [72, 69, 88, 65, 68, 69, 67, 73, 77, 65, 76]) = false := by simpa using h10
  have f11 : (t == [78, 85, 77, 69, 82, 65, 76]) = false := by simpa using h11
  have f12 : (t == [83, 84, 82, 73, 78, 71]) = false := by simpa using h12
  have hw : isWord t = false := by simp [isWord, words, h0, h1, h2, h3, h4, h5, h6, h7, h8, h9, h10, h11, h12]
  rw [hw]
  clear hw h0 h1 h2 h3 h4 h5 h6 h7 h8 h9 h10 h11 h12
  go_enter Tryd.func73, Tryd.ntmps73
  go_wp2
  go_ret
  exact ⟨rfl, rfl⟩

/-- The cell of a token that a method hands back, as it is at first. -/
abbrev zeroTok : Array Value := #[.int .i64 0, .string ⟨#[]⟩, .int .i64 0]

theorem box_after {w w' : World} {R : Nat} (hR : R < w.heap.size) (hg : (w.alloc (.cells zeroTok 23)).grownBy w' (some R)) : Blk w' w.heap.size 23 zeroTok :=
  (Blk.new w _ _).grown hg (by simp; omega)

theorem tok_done {w w' : World} {R : Nat} {ta : Option Addr} {cap : Nat} {bs : List UInt8} {q : Nat} {o : Obj} (hlt : R < w.heap.size) (hg : (w.alloc o).grownBy w' (some R)) (hr : Rd w' R ta cap bs q) (a b c : Value) :
    w.grownBy (((w'.setCell ⟨w.heap.size, 0, none⟩ a).setCell ⟨w.heap.size, 1, none⟩ b).setCell ⟨w.heap.size, 2, none⟩ c) (some R) ∧
      Rd (((w'.setCell ⟨w.heap.size, 0, none⟩ a).setCell ⟨w.heap.size, 1, none⟩ b).setCell ⟨w.heap.size, 2, none⟩ c) R ta cap bs q := by
  have hg0 : w.grownBy w' (some R) := only_trans (only_alloc (only_refl _ _) o) hg
  exact ⟨only_setCell (only_setCell (only_setCell hg0 (.inr (Nat.le_refl _)) _) (.inr (Nat.le_refl _)) _) (.inr (Nat.le_refl _)) _, ((hr.far (by simpa using hlt) _).far (by simpa using hlt) _).far (by simpa using hlt) _⟩

theorem post_ok {w w' : World} {R : Nat} {ta : Option Addr} {cap : Nat} {bs : List UInt8} {p : Nat} {r : TokRes} {k n : Nat} {t : List UInt8} (e : r = .ok (k, t, n)) (h : w.grownBy w' (some R) ∧ Rd w' R ta cap bs (p + n)) :
    TokPost w R ta cap bs p r (.returned (tokV k t 0)) w' := by subst e; exact ⟨h.1, rfl, h.2⟩
theorem post_err {w w' : World} {R : Nat} {ta : Option Addr} {cap : Nat} {bs : List UInt8} {p : Nat} {r : TokRes} {o q : Nat} (e : r = .error o) (hq : q = p + o) (h : w.grownBy w' (some R)) :
    TokPost w R ta cap bs p r (failed q) w' := by subst e hq; exact ⟨h, rfl⟩

theorem symbol_any (h : Rd w R ta cap bs p) : Calls Tryd.prog 50 #[.pointer (some ⟨R, 0, none⟩)] w (TokPost w R ta cap bs p (symT (bs.drop p))) := by
  have hlt := h.lt
  generalize hP : TokPost w R ta cap bs p (symT (bs.drop p)) = Post
  have HP := hide hP
  clear hP
  cases hc : isWord ((bs.drop p).takeWhile symB)
  all_goals
    go_enter Tryd.func50, Tryd.ntmps50
    go_wp2_with (go_at_call 40; refine (run_any (h.alloc _) _ _ isSymbol_any isSymbol_enters).mono ?_; rintro e w' ⟨rfl, hr, hg⟩; obtain ⟨c0, c1, c2, cf⟩ := (box_after hlt hg).c3)
    go_wp2_with (go_at_call 73; refine (reserved_any _ _).mono ?_; rintro e w' ⟨rfl, rfl⟩)
  · refine bodyPost_ret (v := tokV 3 ((bs.drop p).takeWhile symB) 0) (by simp [results, Tryd.results50, go_sem, c0, c1, c2, tokV]) rfl ?_
    rw [← HP.out]
    exact post_ok (by unfold symT; rw [hc]; rfl) (tok_done hlt hg hr _ _ _)
  · refine bodyPost_ret (v := tokV 4 ((bs.drop p).takeWhile symB) 0) (by simp [results, Tryd.results50, go_sem, c0, c1, c2, tokV]) rfl ?_
    rw [← HP.out]
    exact post_ok (by unfold symT; rw [hc]; rfl) (tok_done hlt hg hr _ _ _)

/-- How things stand within a method that reads a token: the reader at place q, the token's cell as it was at first, else nothing has turned. -/
structure St (w : World) (R : Nat) (ta : Option Addr) (cap : Nat) (bs : List UInt8) (q : Nat) (W : World) : Prop where
  rd : Rd W R ta cap bs q
  gr : w.grownBy W (some R)
  box : Blk W w.heap.size 23 zeroTok
  lt : R < w.heap.size

theorem St.start (h : Rd w R ta cap bs p) : St w R ta cap bs p (w.alloc (.cells zeroTok 23)) :=
  ⟨h.alloc _, only_alloc (only_refl _ _) _, Blk.new _ _ _, h.lt⟩
theorem St.startMove (h : Rd w R ta cap bs p) {p' : Nat} {z : Int} (hz : z = (p' : Int)) (hp : p' ≤ bs.length) : St w R ta cap bs p' ((w.setCell ⟨R, 1, none⟩ (.int .i64 z)).alloc (.cells zeroTok 23)) :=
  ⟨(h.move hz hp).alloc _, only_alloc (only_setCell (only_refl _ _) (.inl rfl) _) _, by
    have := Blk.new (w.setCell ⟨R, 1, none⟩ (.int .i64 z)) 23 zeroTok
    simpa [World.setCell] using this, h.lt⟩
section
variable {q : Nat} {W W' : World}
theorem St.drewN (s : St w R ta cap bs q W) (n : Nat) : St w R ta cap bs q (W.drewN n) := ⟨s.rd.drewN n, only_drewN s.gr n, s.box, s.lt⟩
theorem St.drew (s : St w R ta cap bs q W) : St w R ta cap bs q W.drew := ⟨s.rd.drew, only_drew s.gr, s.box, s.lt⟩
theorem St.after (s : St w R ta cap bs q W) {q' : Nat} (hr : Rd W' R ta cap bs q') (hg : W.grownBy W' (some R)) : St w R ta cap bs q' W' :=
  ⟨hr, only_trans s.gr hg, s.box.grown hg (by have := s.lt; simp; omega), s.lt⟩
theorem St.move (s : St w R ta cap bs q W) {q' : Nat} {z : Int} (hz : z = (q' : Int)) (hq : q' ≤ bs.length) : St w R ta cap bs q' (W.setCell ⟨R, 1, none⟩ (.int .i64 z)) :=
  ⟨s.rd.move hz hq, only_setCell s.gr (.inl rfl) _, s.box.far (by have := s.lt; simp; omega) _, s.lt⟩
theorem St.facts (s : St w R ta cap bs q W) : (W.cell? ⟨R, 0, none⟩ = some (.slice ta bs.length cap) ∧ W.cell? ⟨R, 1, none⟩ = some (.int .i64 (q : Int)) ∧ W.frozen? ⟨R, 1, none⟩ = false) ∧
    W.cell? ⟨w.heap.size, 0, none⟩ = some (.int .i64 0) ∧ W.cell? ⟨w.heap.size, 1, none⟩ = some (.string ⟨#[]⟩) ∧ W.cell? ⟨w.heap.size, 2, none⟩ = some (.int .i64 0) ∧ ∀ i, W.frozen? ⟨w.heap.size, i, none⟩ = false :=
  ⟨⟨s.rd.cell0, s.rd.cell1, s.rd.free 1⟩, s.box.c3⟩
theorem St.done (s : St w R ta cap bs q W) (a b c : Value) :
    w.grownBy (((W.setCell ⟨w.heap.size, 0, none⟩ a).setCell ⟨w.heap.size, 1, none⟩ b).setCell ⟨w.heap.size, 2, none⟩ c) (some R) ∧
      Rd (((W.setCell ⟨w.heap.size, 0, none⟩ a).setCell ⟨w.heap.size, 1, none⟩ b).setCell ⟨w.heap.size, 2, none⟩ c) R ta cap bs q := by
  have hlt := s.lt
  exact ⟨only_setCell (only_setCell (only_setCell s.gr (.inr (Nat.le_refl _)) _) (.inr (Nat.le_refl _)) _) (.inr (Nat.le_refl _)) _, ((s.rd.far (by simpa using hlt) _).far (by simpa using hlt) _).far (by simpa using hlt) _⟩
end

theorem isAt_next (q : UInt8 → Bool) (bs : List UInt8) (p n : Nat) : isAt q (bs.drop p) n = isAt q bs (p + n) := isAt_drop q bs p n

theorem keyword_any (h : Rd w R ta cap bs p) (hp : p < bs.length) : Calls Tryd.prog 47 #[.pointer (some ⟨R, 0, none⟩)] w (TokPost w R ta cap bs p (keyT (bs.drop p))) := by
  have hlt := h.lt
  have h1 := h.cell1
  have hf := h.free 1
  have hfit := h.fit
  have hmax := h.top
  have s1 := St.startMove h (p' := p + 1) (z := (p : Int) + 1) (by omega) (by omega)
  generalize hP : TokPost w R ta cap bs p (keyT (bs.drop p)) = Post
  have HP := hide hP
  clear hP
  cases hc : isAt symB bs (p + 1)
  · go_enter Tryd.func47, Tryd.ntmps47
    go_wp2_with fail
    refine (is_any s1.rd _ _ isSymbol_any isSymbol_enters).mono ?_
    rintro e w' ⟨rfl, m, rfl⟩
    go_wp2_with fail
    refine (fail_any (s1.drewN m).rd).mono ?_
    rintro e w' ⟨rfl, rfl⟩
    go_wp2_with fail
    refine ⟨rfl, ?_⟩
    rw [← HP.out]
    exact post_err (by unfold keyT; rw [isAt_next, hc]; rfl) rfl (s1.drewN m).gr
  · go_enter Tryd.func47, Tryd.ntmps47
    go_wp2_with fail
    refine (is_any s1.rd _ _ isSymbol_any isSymbol_enters).mono ?_
    rintro e w' ⟨rfl, m, rfl⟩
    go_wp2_with fail
    refine (run_any (s1.drewN m).rd _ _ isSymbol_any isSymbol_enters).mono ?_
    rintro e w' ⟨rfl, hr, hg⟩
    have s2 := (s1.drewN m).after hr hg
    obtain ⟨-, c0, c1, c2, cf⟩ := s2.facts
    go_wp2_with fail
    refine bodyPost_ret (v := tokV 10 ((bs.drop (p + 1)).takeWhile symB) 0) (by simp [results, Tryd.results47, go_sem, c0, c1, c2, tokV]) rfl ?_
    rw [← HP.out]
    refine post_ok (n := 1 + cnt symB (bs.drop (p + 1))) (by unfold keyT; rw [isAt_next, hc, List.drop_drop]; rfl) ?_
    rw [← Nat.add_assoc]
    exact s2.done _ _ _
end
end Go.Proofs.YtajlibegalbbmaaDoor
