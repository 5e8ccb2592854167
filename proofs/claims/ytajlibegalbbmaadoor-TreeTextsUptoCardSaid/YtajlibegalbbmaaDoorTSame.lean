/- Trees as values; collatorref05.Same, same: by their contracts. -/
import Derived.Test.YtajlibegalbbmaaDoorTCatch
namespace Go.Proofs.YtajlibegalbbmaaDoor
open Go.RowKit

/-- What holds of a tree if it holds of its kids, holds of all trees. -/
theorem Tr.ind {P : Tr → Prop} (h : ∀ l tk kids, (∀ k ∈ kids, P k) → P (.mk l tk kids)) : ∀ t, P t :=
  fun t => Tr.rec (motive_1 := P) (motive_2 := fun l => ∀ k ∈ l, P k) (fun l tk kids ih => h l tk kids ih) (fun k hk => by cases hk)
    (fun t r ht hr k hk => by rcases List.mem_cons.1 hk with rfl | hk; exact ht; exact hr k hk) t
def Tr.l : Tr → Bool | .mk l _ _ => l
def Tr.tk : Tr → Tk | .mk _ tk _ => tk
def Tr.kids : Tr → List Tr | .mk _ _ kids => kids
/-- A tree as a value. -/
def TreeV (w : World) (ok : Nat → Prop) (t : Tr) (v : Value) : Prop := ∃ ka cap, v = .agg (trCells t.l t.tk (.slice ka t.kids.length cap)).toArray ∧ t.kids.length ≤ cap ∧ CapOk ka cap ∧ RepK w ok t.kids ka
theorem TreeV.of {w : World} {ok : Nat → Prop} {t : Tr} {cs : List Value} (h : Rep w ok t cs) : ∃ ka cap, cs = trCells t.l t.tk (.slice ka t.kids.length cap) ∧ t.kids.length ≤ cap ∧ CapOk ka cap ∧ RepK w ok t.kids ka := by
  obtain ⟨l, tk, kids⟩ := t
  simp only [Rep] at h
  exact h
theorem TreeV.rep {w : World} {ok : Nat → Prop} {t : Tr} {ka : Option Addr} {cap : Nat} (h1 : t.kids.length ≤ cap) (h2 : CapOk ka cap) (h3 : RepK w ok t.kids ka) : Rep w ok t (trCells t.l t.tk (.slice ka t.kids.length cap)) := by
  obtain ⟨l, tk, kids⟩ := t
  simp only [Rep]
  exact ⟨ka, cap, rfl, h1, h2, h3⟩
section
variable {w w' : World} {ok ok' : Nat → Prop}
theorem RepL.at : ∀ {l : List Tr} {cs : List Value}, RepL w ok l cs → ∀ {i : Nat} (hi : i < l.length), ∃ c, Rep w ok l[i] c ∧ ∀ j u, c[j]? = some u → cs[i * 5 + j]? = some u
  | t :: r, cs, h, 0, hi => by
    simp only [RepL] at h
    obtain ⟨c, ks, e, h1, h2⟩ := h
    refine ⟨c, h1, fun j u hj => ?_⟩
    have hl : j < c.length := (List.getElem?_eq_some_iff.1 hj).1
    rw [e, Nat.zero_mul, Nat.zero_add, List.getElem?_append_left hl]
    exact hj
  | t :: r, cs, h, i + 1, hi => by
    simp only [RepL] at h
    obtain ⟨c, ks, e, h1, h2⟩ := h
    obtain ⟨d, k1, k2⟩ := RepL.at h2 (i := i) (by simpa using hi)
    refine ⟨d, by simpa using k1, fun j u hj => ?_⟩
    rw [e, List.getElem?_append_right (by rw [h1.five]; omega), h1.five, ← k2 j u hj]
    congr 1
    omega
/-- A kid lies at its place. -/
theorem RepK.at {l : List Tr} {ka : Option Addr} (h : RepK w ok l ka) {i : Nat} (hi : i < l.length) :
    ∃ b off, ka = some ⟨b, off, none⟩ ∧ ok b ∧ b < w.heap.size ∧ ∃ ia ic, l[i].kids.length ≤ ic ∧ CapOk ia ic ∧ RepK w ok l[i].kids ia ∧ w.cell? ⟨b, off + i * 5, none⟩ = some (.bool l[i].l) ∧ w.cell? ⟨b, off + i * 5 + 1, none⟩ = some (.int .i64 l[i].tk.1) ∧
      w.cell? ⟨b, off + i * 5 + 2, none⟩ = some (.string ⟨l[i].tk.2.1.toArray⟩) ∧ w.cell? ⟨b, off + i * 5 + 3, none⟩ = some (.int .i64 l[i].tk.2.2) ∧ w.cell? ⟨b, off + i * 5 + 4, none⟩ = some (.slice ia l[i].kids.length ic) := by
  cases l with
  | nil => simp at hi
  | cons t r =>
    simp only [RepK] at h
    obtain ⟨b, off, c, ks, e, h1, h2, h3, h4, h5⟩ := h
    have hL : RepL w ok (t :: r) (c ++ ks) := by simp only [RepL]; exact ⟨c, ks, rfl, h4, h5⟩
    obtain ⟨d, k1, k2⟩ := hL.at hi
    obtain ⟨ia, ic, ed, m1, m2, m3⟩ := TreeV.of k1
    refine ⟨b, off, e, h1, h2, ia, ic, m1, m2, m3, ?_⟩
    have key : ∀ j u, d[j]? = some u → w.cell? ⟨b, off + i * 5 + j, none⟩ = some u := fun j u hj => by
      rw [Nat.add_assoc]; exact h3 _ u (k2 j u hj)
    subst ed
    exact ⟨by simpa using key 0 _ rfl, key 1 _ rfl, key 2 _ rfl, key 3 _ rfl, key 4 _ rfl⟩
theorem RepK.below {l : List Tr} {ka : Option Addr} (h : RepK w ok l ka) (hb : Below w.heap.size w w') : RepK w' ok l ka := RepK.keep (fun b hlt hok => ⟨hok, hb.block b hlt⟩) hb.size _ _ h
theorem RepV.below {l : List Tr} {v : Value} (h : RepV w ok l v) (hb : Below w.heap.size w w') : RepV w' ok l v := h.keep (fun b hlt hok => ⟨hok, hb.block b hlt⟩) hb.size
theorem TreeV.below {t : Tr} {v : Value} (h : TreeV w ok t v) (hb : Below w.heap.size w w') : TreeV w' ok t v := by
  obtain ⟨ka, cap, e, h1, h2, h3⟩ := h
  exact ⟨ka, cap, e, h1, h2, h3.below hb⟩
theorem RepK.any {l : List Tr} {ka : Option Addr} (h : RepK w ok l ka) : RepK w (fun _ => True) l ka := RepK.keep (fun _ _ _ => ⟨trivial, rfl⟩) (Nat.le_refl _) _ _ h
theorem RepV.any {l : List Tr} {v : Value} (h : RepV w ok l v) : RepV w (fun _ => True) l v := h.keep (fun _ _ _ => ⟨trivial, rfl⟩) (Nat.le_refl _)
end
/-- A tree's cells as a value. -/
abbrev trV (l : Bool) (tk : Tk) (ka : Option Addr) (n cap : Nat) : Value := .agg #[.bool l, .int .i64 tk.1, .string ⟨tk.2.1.toArray⟩, .int .i64 tk.2.2, .slice ka n cap]

theorem Blk.c5 {w : World} {g : Nat} {t : TypeId} {p q r s u : Value} (h : Blk w g t #[p, q, r, s, u]) : w.cell? ⟨g, 0, none⟩ = some p ∧ w.cell? ⟨g, 1, none⟩ = some q ∧ w.cell? ⟨g, 2, none⟩ = some r ∧ w.cell? ⟨g, 3, none⟩ = some s ∧ w.cell? ⟨g, 4, none⟩ = some u :=
  ⟨h.cell 0, h.cell 1, h.cell 2, h.cell 3, h.cell 4⟩
theorem sameT_parts {at_ l l' : Bool} {k a k' a' : Int} {tx tx' : List UInt8} {kids kids' : List Tr} (h : sameT at_ (.mk l (k, tx, a) kids) (.mk l' (k', tx', a') kids') = true) : l = l' ∧ k = k' ∧ tx = tx' ∧ (at_ = true → a = a') ∧ sameL at_ kids kids' = true := by
  simp only [sameT, Bool.and_eq_true, beq_iff_eq, decide_eq_true_eq, Bool.not_eq_true', Bool.and_eq_false_iff, Bool.not_eq_false'] at h
  obtain ⟨h1, h2, h3, h4, h5⟩ := h
  refine ⟨h1, h2, h3, fun e => ?_, h5⟩
  rcases h4 with h4 | h4
  · rw [e] at h4; cases h4
  · simpa using h4
theorem ck {c c' : World} {B : Nat} (hb : Below B c c') {p : Addr} {u : Value} (h : c.cell? p = some u) (hB : c.heap.size ≤ B := by exact Nat.le_refl _) : c'.cell? p = some u := (hb.cell (Nat.lt_of_lt_of_le (World.block_lt_of_cell? _ _ h) hB)).trans h
theorem bl_drew {w0 c : World} (h : Below w0.heap.size w0 c) : Below w0.heap.size w0 c.drew := h.drew
theorem bl_call {w0 c c' : World} (h : Below w0.heap.size w0 c) (hb : Below c.heap.size c c') : Below w0.heap.size w0 c' := h.trans (hb.mono h.size)
theorem sameL_at {at_ : Bool} : ∀ {l l' : List Tr}, sameL at_ l l' = true → l.length = l'.length ∧ ∀ i (h : i < l.length) (h' : i < l'.length), sameT at_ l[i] l'[i] = true
  | [], [], _ => ⟨rfl, fun i h => by simp at h⟩
  | [], _ :: _, h => by simp [sameL] at h
  | _ :: _, [], h => by simp [sameL] at h
  | t :: r, t' :: r', h => by
    simp only [sameL, Bool.and_eq_true] at h
    obtain ⟨h1, h2⟩ := sameL_at h.2
    refine ⟨by simp [h1], fun i hi hi' => ?_⟩
    cases i with
    | zero => exact h.1
    | succ i => exact h2 i (by simpa using hi) (by simpa using hi')

set_option maxRecDepth 100000 in
set_option maxHeartbeats 1600000 in
theorem same_tr (at_ : Bool) : ∀ (t t' : Tr) (ka ka' : Option Addr) (cap cap' : Nat) (w : World), sameT at_ t t' = true → t.kids.length ≤ cap → CapOk ka cap → t'.kids.length ≤ cap' → CapOk ka' cap' → RepK w (fun _ => True) t.kids ka → RepK w (fun _ => True) t'.kids ka' →
    Calls Tryd.prog 31 #[trV t.l t.tk ka t.kids.length cap, trV t'.l t'.tk ka' t'.kids.length cap', .bool at_] w fun e w' => e = .returned (.bool true) ∧ Below w.heap.size w w' := by
  refine Tr.ind fun l tk kids ih => ?_
  intro t' ka ka' cap cap' w hs hc hm hc' hm' hr hr'
  obtain ⟨l', tk', kids'⟩ := t'
  simp only [Tr.l, Tr.tk, Tr.kids] at hc hm hc' hm' hr hr' ⊢
  obtain ⟨k, tx, a⟩ := tk
  obtain ⟨k', tx', a'⟩ := tk'
  obtain ⟨rfl, rfl, rfl, ha, hL⟩ := sameT_parts hs
  clear hs
  replace hL := sameL_at hL
  obtain ⟨hll, hL⟩ := hL
  have h63 : kids.length ≤ maxLen := Nat.le_trans hc hm.1
  unfold maxLen at h63
  obtain ⟨W, hW⟩ : ∃ W, (w.alloc (.cells #[.bool l, .int .i64 k, .string ⟨tx.toArray⟩, .int .i64 a, .slice ka kids.length cap] tT)).alloc (.cells #[.bool l, .int .i64 k, .string ⟨tx.toArray⟩, .int .i64 a', .slice ka' kids'.length cap'] tT) = W := ⟨_, rfl⟩
  have hb : Below w.heap.size w W := by rw [← hW]; exact ((Below.refl _ _).alloc (Nat.le_refl _) _).alloc (by simp) _
  have b1 : Blk W w.heap.size tT #[.bool l, .int .i64 k, .string ⟨tx.toArray⟩, .int .i64 a, .slice ka kids.length cap] := by rw [← hW]; exact (Blk.new w _ _).alloc _
  have b2 : Blk W (w.heap.size + 1) tT #[.bool l, .int .i64 k, .string ⟨tx.toArray⟩, .int .i64 a', .slice ka' kids'.length cap'] := by
    rw [← hW]
    have h := Blk.new (w.alloc (.cells #[.bool l, .int .i64 k, .string ⟨tx.toArray⟩, .int .i64 a, .slice ka kids.length cap] tT)) tT #[.bool l, .int .i64 k, .string ⟨tx.toArray⟩, .int .i64 a', .slice ka' kids'.length cap']
    rwa [World.size_alloc] at h
  have HW := hide hW
  clear hW
  replace hr := hr.below hb
  replace hr' := hr'.below hb
  rw [← hll]
  rw [← hll] at b2 HW hc'
  have HL := hide hll
  clear hll
  go_enter Tryd.func31, Tryd.ntmps31
  go_upto_region 1 with (fail)
  rw [HW.out]
  clear HW
  obtain ⟨c0, c1, c2, c3, c4⟩ := b1.c5
  obtain ⟨d0, d1, d2, d3, d4⟩ := b2.c5
  cases at_
  case' true => obtain rfl := ha rfl
  all_goals
    go_wp2_with fail
    have hlen := HL.out
    clear c0 c1 c2 c3 d0 d1 d2 ha HL
    go_loopg [7] kids.length (fun k v7 wr => ∃ i : Nat, i + k = kids.length ∧ v7 = .int .i64 (i : Int) ∧ Below W.heap.size W wr)
    case atStart => exact ⟨0, by omega, rfl, Below.refl _ _⟩
    case round =>
      obtain ⟨i, hik, rfl, hbr⟩ := hrel
      replace c4 := ck hbr c4
      replace d4 := ck hbr d4
      have HI := hide hik
      have HL := hide hlen
      rcases Nat.lt_or_ge i kids.length with hi | hi
      · have hi' : i < kids'.length := by omega
        obtain ⟨b, off, rfl, -, -, ia, ic, m1, m2, m3, x0, x1, x2, x3, x4⟩ := (hr.below hbr).at hi
        obtain ⟨b', off', rfl, -, -, ia', ic', m1', m2', m3', y0, y1, y2, y3, y4⟩ := (hr'.below hbr).at hi'
        have hc1 := ih kids[i] (List.getElem_mem hi)
        have hsi := hL i hi hi'
        clear hik hlen ih hL
        have i1 : (0 : Int) ≤ (i : Int) := by omega
        have i2 : (i : Int) < (kids.length : Int) := by omega
        generalize kids[i] = q at hc1 hsi m1 m2 m3 x0 x1 x2 x3 x4
        generalize kids'[i] = q' at hsi m1' m2' m3' y0 y1 y2 y3 y4
        go_wp2_with fail
        have hS0 : ∀ c : World, Below wr.heap.size wr c → (c.cell? ⟨w.heap.size, 4, none⟩ = some (.slice (some ⟨b, off, none⟩) kids.length cap) ∧ c.cell? ⟨w.heap.size + 1, 4, none⟩ = some (.slice (some ⟨b', off', none⟩) kids.length cap') ∧ c.cell? ⟨b, off + i * 5, none⟩ = some (.bool q.l) ∧ c.cell? ⟨b, off + i * 5 + 1, none⟩ = some (.int .i64 q.tk.1) ∧ c.cell? ⟨b, off + i * 5 + 2, none⟩ = some (.string ⟨q.tk.2.1.toArray⟩) ∧ c.cell? ⟨b, off + i * 5 + 3, none⟩ = some (.int .i64 q.tk.2.2) ∧ c.cell? ⟨b, off + i * 5 + 4, none⟩ = some (.slice ia q.kids.length ic) ∧ c.cell? ⟨b', off' + i * 5, none⟩ = some (.bool q'.l) ∧ c.cell? ⟨b', off' + i * 5 + 1, none⟩ = some (.int .i64 q'.tk.1) ∧ c.cell? ⟨b', off' + i * 5 + 2, none⟩ = some (.string ⟨q'.tk.2.1.toArray⟩) ∧ c.cell? ⟨b', off' + i * 5 + 3, none⟩ = some (.int .i64 q'.tk.2.2) ∧ c.cell? ⟨b', off' + i * 5 + 4, none⟩ = some (.slice ia' q'.kids.length ic') ∧ Below wr.heap.size wr c) := fun c hb => ⟨ck hb c4, ck hb d4, ck hb x0, ck hb x1, ck hb x2, ck hb x3, ck hb x4, ck hb y0, ck hb y1, ck hb y2, ck hb y3, ck hb y4, hb⟩
        go_region_held3 (fun w' => w'.cell? ⟨w.heap.size, 4, none⟩ = some (.slice (some ⟨b, off, none⟩) kids.length cap) ∧ w'.cell? ⟨w.heap.size + 1, 4, none⟩ = some (.slice (some ⟨b', off', none⟩) kids.length cap') ∧ w'.cell? ⟨b, off + i * 5, none⟩ = some (.bool q.l) ∧ w'.cell? ⟨b, off + i * 5 + 1, none⟩ = some (.int .i64 q.tk.1) ∧ w'.cell? ⟨b, off + i * 5 + 2, none⟩ = some (.string ⟨q.tk.2.1.toArray⟩) ∧ w'.cell? ⟨b, off + i * 5 + 3, none⟩ = some (.int .i64 q.tk.2.2) ∧ w'.cell? ⟨b, off + i * 5 + 4, none⟩ = some (.slice ia q.kids.length ic) ∧ w'.cell? ⟨b', off' + i * 5, none⟩ = some (.bool q'.l) ∧ w'.cell? ⟨b', off' + i * 5 + 1, none⟩ = some (.int .i64 q'.tk.1) ∧ w'.cell? ⟨b', off' + i * 5 + 2, none⟩ = some (.string ⟨q'.tk.2.1.toArray⟩) ∧ w'.cell? ⟨b', off' + i * 5 + 3, none⟩ = some (.int .i64 q'.tk.2.2) ∧ w'.cell? ⟨b', off' + i * 5 + 4, none⟩ = some (.slice ia' q'.kids.length ic') ∧ Below wr.heap.size wr w')
          (exact hS0 _ (by repeat (first | with_reducible exact Below.refl _ _ | with_reducible refine bl_drew ?_ | with_reducible refine bl_call ?_ (by with_reducible assumption) | with_reducible assumption)))
          (first | (go_at_call 31; (with_reducible refine (hc1 q' ia ia' ic ic' _ hsi m1 m2 m1' m2' (m3.below (by go_split_ands; assumption)) (m3'.below (by go_split_ands; assumption))).mono ?_); rintro e wN ⟨rfl, hb1⟩))
        have hbN : Below wr.heap.size wr wN := bl_call (bl_drew (Below.refl _ _)) hb1
        clear hS0 x0 x1 x2 x3 x4 y0 y1 y2 y3 y4 c4 d4 hc1 m3 m3'
        go_wp2_with fail
        have hik := HI.out
        go_roundg (gk - 1)
        case measure => omega
        case rel => exact ⟨i + 1, by omega, by go_num, hbr.trans (hbN.mono hbr.size)⟩
      · clear hik hL ih
        go_wp2_with fail
        go_ret
        exact ⟨rfl, hb.trans (hbr.mono hb.size)⟩

set_option maxRecDepth 100000 in
set_option maxHeartbeats 1600000 in
theorem same_rows (at_ : Bool) (kids kids' : List Tr) (ka ka' : Option Addr) (cap cap' : Nat) (w : World) (hs : sameL at_ kids kids' = true) (hc : kids.length ≤ cap) (hm : CapOk ka cap) (hr : RepK w (fun _ => True) kids ka) (hr' : RepK w (fun _ => True) kids' ka') :
    Calls Tryd.prog 16 #[.slice ka kids.length cap, .slice ka' kids'.length cap', .bool at_] w fun e w' => e = .returned (.bool true) ∧ Below w.heap.size w w' := by
  obtain ⟨hll, hL⟩ := sameL_at hs
  clear hs
  have h63 : kids.length ≤ maxLen := Nat.le_trans hc hm.1
  unfold maxLen at h63
  rw [← hll]
  have HL := hide hll
  clear hll
  go_enter Tryd.func16, Tryd.ntmps16
  go_wp2_with fail
  go_loopg [15] kids.length (fun k v15 wr => ∃ i : Nat, i + k = kids.length ∧ v15 = .int .i64 (i : Int) ∧ Below w.heap.size w wr)
  case atStart => exact ⟨0, by omega, rfl, Below.refl _ _⟩
  case round =>
    obtain ⟨i, hik, rfl, hbr⟩ := hrel
    have hlen := HL.out
    have HI := hide hik
    rcases Nat.lt_or_ge i kids.length with hi | hi
    · have hi' : i < kids'.length := by omega
      obtain ⟨b, off, rfl, -, -, ia, ic, m1, m2, m3, x0, x1, x2, x3, x4⟩ := (hr.below hbr).at hi
      obtain ⟨b', off', rfl, -, -, ia', ic', m1', m2', m3', y0, y1, y2, y3, y4⟩ := (hr'.below hbr).at hi'
      have hsi := hL i hi hi'
      clear hik hlen hL
      have i1 : (0 : Int) ≤ (i : Int) := by omega
      have i2 : (i : Int) < (kids.length : Int) := by omega
      generalize kids[i] = q at hsi m1 m2 m3 x0 x1 x2 x3 x4
      generalize kids'[i] = q' at hsi m1' m2' m3' y0 y1 y2 y3 y4
      go_wp2_with fail
      have hS0 : ∀ c : World, Below wr.heap.size wr c → (c.cell? ⟨b, off + i * 5, none⟩ = some (.bool q.l) ∧ c.cell? ⟨b, off + i * 5 + 1, none⟩ = some (.int .i64 q.tk.1) ∧ c.cell? ⟨b, off + i * 5 + 2, none⟩ = some (.string ⟨q.tk.2.1.toArray⟩) ∧ c.cell? ⟨b, off + i * 5 + 3, none⟩ = some (.int .i64 q.tk.2.2) ∧ c.cell? ⟨b, off + i * 5 + 4, none⟩ = some (.slice ia q.kids.length ic) ∧ c.cell? ⟨b', off' + i * 5, none⟩ = some (.bool q'.l) ∧ c.cell? ⟨b', off' + i * 5 + 1, none⟩ = some (.int .i64 q'.tk.1) ∧ c.cell? ⟨b', off' + i * 5 + 2, none⟩ = some (.string ⟨q'.tk.2.1.toArray⟩) ∧ c.cell? ⟨b', off' + i * 5 + 3, none⟩ = some (.int .i64 q'.tk.2.2) ∧ c.cell? ⟨b', off' + i * 5 + 4, none⟩ = some (.slice ia' q'.kids.length ic') ∧ Below wr.heap.size wr c) := fun c hb => ⟨ck hb x0, ck hb x1, ck hb x2, ck hb x3, ck hb x4, ck hb y0, ck hb y1, ck hb y2, ck hb y3, ck hb y4, hb⟩
      go_region_held3 (fun w' => w'.cell? ⟨b, off + i * 5, none⟩ = some (.bool q.l) ∧ w'.cell? ⟨b, off + i * 5 + 1, none⟩ = some (.int .i64 q.tk.1) ∧ w'.cell? ⟨b, off + i * 5 + 2, none⟩ = some (.string ⟨q.tk.2.1.toArray⟩) ∧ w'.cell? ⟨b, off + i * 5 + 3, none⟩ = some (.int .i64 q.tk.2.2) ∧ w'.cell? ⟨b, off + i * 5 + 4, none⟩ = some (.slice ia q.kids.length ic) ∧ w'.cell? ⟨b', off' + i * 5, none⟩ = some (.bool q'.l) ∧ w'.cell? ⟨b', off' + i * 5 + 1, none⟩ = some (.int .i64 q'.tk.1) ∧ w'.cell? ⟨b', off' + i * 5 + 2, none⟩ = some (.string ⟨q'.tk.2.1.toArray⟩) ∧ w'.cell? ⟨b', off' + i * 5 + 3, none⟩ = some (.int .i64 q'.tk.2.2) ∧ w'.cell? ⟨b', off' + i * 5 + 4, none⟩ = some (.slice ia' q'.kids.length ic') ∧ Below wr.heap.size wr w')
        (exact hS0 _ (by repeat (first | with_reducible exact Below.refl _ _ | with_reducible refine bl_drew ?_ | with_reducible refine bl_call ?_ (by with_reducible assumption) | with_reducible assumption)))
        (first | (go_at_call 31; (with_reducible refine (same_tr at_ q q' ia ia' ic ic' _ hsi m1 m2 m1' m2' (m3.below (by go_split_ands; assumption)) (m3'.below (by go_split_ands; assumption))).mono ?_); rintro e wN ⟨rfl, hb1⟩))
      have hbN : Below wr.heap.size wr wN := bl_call (bl_drew (Below.refl _ _)) hb1
      clear hS0 x0 x1 x2 x3 x4 y0 y1 y2 y3 y4 m3 m3'
      go_wp2_with fail
      have hik := HI.out
      go_roundg (gk - 1)
      case measure => omega
      case rel => exact ⟨i + 1, by omega, by go_num, hbr.trans (hbN.mono hbr.size)⟩
    · clear hik hL hlen
      go_wp2_with fail
      go_ret
      exact ⟨rfl, hbr⟩
end Go.Proofs.YtajlibegalbbmaaDoor
