/- tree.Size, collatorref05.Size: by their contracts. -/
import Derived.Test.YtajlibegalbbmaaDoorTSame
namespace Go.Proofs.YtajlibegalbbmaaDoor
open Go.RowKit

theorem size_eq (q : Tr) : q.size = if q.l = true then 2 + sizes q.kids else 1 := by cases q; rfl
theorem sizes_app : ∀ l r : List Tr, sizes (l ++ r) = sizes l + sizes r
  | [], r => by simp [sizes]
  | t :: l, r => by simp only [List.cons_append, sizes, sizes_app l r]; omega
theorem sizes_one (q : Tr) : sizes [q] = q.size := by simp [sizes]
theorem size_pos (q : Tr) : 1 ≤ q.size := by rw [size_eq]; split <;> omega
theorem sizes_len : ∀ l : List Tr, l.length ≤ sizes l
  | [] => Nat.le_refl _
  | t :: l => by have := sizes_len l; have := size_pos t; simp only [sizes, List.length_cons]; omega
section
variable {w w' : World} {ok : Nat → Prop}
theorem RepK.row {l : List Tr} {ka : Option Addr} {cap : Nat} (h : RepK w ok l ka) (hc : CapOk ka cap) : ∃ news, news.length = l.length * 5 ∧ RepL w ok l news ∧ (ka = none ∧ l.length = 0 ∧ cap = 0 ∨ ∃ ad, ka = some ad ∧ ∀ j u, news[j]? = some u → w.cell? (ad.add j) = some u) := by
  cases l with
  | nil =>
    refine ⟨[], rfl, by simp [RepL], ?_⟩
    cases ka with
    | none => exact .inl ⟨rfl, rfl, hc.2 rfl⟩
    | some ad => exact .inr ⟨ad, rfl, fun j u hj => by simp at hj⟩
  | cons t r =>
    simp only [RepK] at h
    obtain ⟨b, off, c, ks, rfl, h1, h2, h3, h4, h5⟩ := h
    have hL : RepL w ok (t :: r) (c ++ ks) := by simp only [RepL]; exact ⟨c, ks, rfl, h4, h5⟩
    exact ⟨c ++ ks, hL.len, hL, .inr ⟨_, rfl, fun j u hj => by rw [add_plain]; exact h3 j u hj⟩⟩
theorem RepL.one : ∀ {l : List Tr} {cs : List Value}, RepL w ok l cs → ∀ u ∈ cs, u.oneCell' = true
  | [], cs, h => by simp only [RepL] at h; subst h; intro u hu; cases hu
  | t :: r, cs, h => by
    simp only [RepL] at h
    obtain ⟨c, ks, rfl, h1, h2⟩ := h
    obtain ⟨ka, cap, rfl, -⟩ := TreeV.of h1
    intro u hu
    rcases List.mem_append.1 hu with hu | hu
    · exact oneCell_tr _ _ _ _ _ u hu
    · exact RepL.one h2 u hu
theorem RepL.app : ∀ {l r : List Tr} {cs ds : List Value}, RepL w ok l cs → RepL w ok r ds → RepL w ok (l ++ r) (cs ++ ds)
  | [], r, cs, ds, h, k => by simp only [RepL] at h; subst h; exact k
  | t :: l, r, cs, ds, h, k => by
    simp only [RepL] at h
    obtain ⟨c, ks, rfl, h1, h2⟩ := h
    simp only [List.cons_append, RepL]
    exact ⟨c, ks ++ ds, by rw [List.append_assoc], h1, RepL.app h2 k⟩
theorem RepL.last : ∀ {l : List Tr} {q : Tr} {cs : List Value}, RepL w ok (l ++ [q]) cs → ∃ xs c, cs = xs ++ c ∧ RepL w ok l xs ∧ Rep w ok q c
  | [], q, cs, h => by
    simp only [List.nil_append, RepL] at h
    obtain ⟨c, ks, rfl, h1, h2⟩ := h
    subst h2
    exact ⟨[], c, by simp, by simp [RepL], h1⟩
  | t :: l, q, cs, h => by
    simp only [List.cons_append, RepL] at h
    obtain ⟨c, ks, rfl, h1, h2⟩ := h
    obtain ⟨xs, d, rfl, k1, k2⟩ := RepL.last h2
    exact ⟨c ++ xs, d, by rw [List.append_assoc], by simp only [RepL]; exact ⟨c, xs, rfl, h1, k1⟩, k2⟩
theorem RepL.far {B : Nat} {l : List Tr} {cs : List Value} (h : RepL w ok l cs) (hb : Below B w w') (hok : ∀ b, ok b → b < B) : RepL w' ok l cs := RepL.keep (fun b _ hk => ⟨hk, hb.block b (hok b hk)⟩) hb.size _ _ h
theorem RepK.far {B : Nat} {l : List Tr} {ka : Option Addr} (h : RepK w ok l ka) (hb : Below B w w') (hok : ∀ b, ok b → b < B) : RepK w' ok l ka := RepK.keep (fun b _ hk => ⟨hk, hb.block b (hok b hk)⟩) hb.size _ _ h
theorem RepK.mark {l : List Tr} {ka : Option Addr} (h : RepK w ok l ka) : RepK w (fun b => b < w.heap.size) l ka := RepK.keep (fun _ hb _ => ⟨hb, rfl⟩) (Nat.le_refl _) _ _ h
end
theorem own_pop {w : World} {base : Nat} {e : TypeId} {g n c : Nat} {xs ys : List Value} (h : w.ownsRow base e 5 (.slice (some ⟨g, 0, none⟩) (n + 1) c) (n + 1) (xs ++ ys)) (hx : xs.length = n * 5) : w.ownsRow base e 5 (.slice (some ⟨g, 0, none⟩) n c) n xs := by
  refine ⟨hx, ?_⟩
  rcases h.2 with ⟨hv, h0⟩ | ⟨g', c', cur, hv, hb, hg, hle, hmx, hsz, htk⟩
  · omega
  · injection hv with h1 h2 h3
    injection h1 with h1
    injection h1 with h1 _ _
    subst h1 h3
    refine .inr ⟨g, c, cur, rfl, hb, hg, by omega, hmx, hsz, ?_⟩
    have h5 := congrArg (List.take (n * 5)) htk
    rw [List.take_take, Nat.min_eq_left (by omega)] at h5
    rw [h5, List.take_append_of_le_length (by omega), List.take_of_length_le (by omega)]

set_option maxRecDepth 100000 in
set_option maxHeartbeats 1600000 in
theorem size_any (t : Tr) (ka : Option Addr) (cap : Nat) (w : World) (hc : t.kids.length ≤ cap) (hm : CapOk ka cap) (hr : RepK w (fun _ => True) t.kids ka) (hsz : t.size ≤ 1000000000) :
    Calls Tryd.prog 20 #[trV t.l t.tk ka t.kids.length cap] w fun e w' => e = .returned (.int .i64 (t.size : Int)) ∧ Below w.heap.size w w' := by
  generalize hP : (fun (e : Ending) (w' : World) => e = .returned (.int .i64 (t.size : Int)) ∧ Below w.heap.size w w') = Post
  have HP := hide hP
  clear hP
  obtain ⟨W, hW⟩ : ∃ W, (w.alloc (.cells #[.bool t.l, .int .i64 t.tk.1, .string ⟨t.tk.2.1.toArray⟩, .int .i64 t.tk.2.2, .slice ka t.kids.length cap] tT)).alloc (.cells #[.bool t.l, .int .i64 t.tk.1, .string ⟨t.tk.2.1.toArray⟩, .int .i64 t.tk.2.2, .slice ka t.kids.length cap] tT) = W := ⟨_, rfl⟩
  have hb : Below w.heap.size w W := by rw [← hW]; exact ((Below.refl _ _).alloc (Nat.le_refl _) _).alloc (by simp) _
  have ho0 : W.ownsRow w.heap.size tT 5 (.slice (some ⟨w.heap.size + 1, 0, none⟩) 1 1) 1 (trCells t.l t.tk (.slice ka t.kids.length cap)) := by
    rw [← hW]
    have h := heap_alloc_new (w.alloc (.cells (trCells t.l t.tk (.slice ka t.kids.length cap)).toArray tT)) (.cells (trCells t.l t.tk (.slice ka t.kids.length cap)).toArray tT)
    rw [World.size_alloc] at h
    exact ⟨rfl, .inr ⟨w.heap.size + 1, 1, _, rfl, by omega, h, Nat.le_refl _, by unfold maxLen; omega, rfl, rfl⟩⟩
  have hrl0 : RepL W (fun b => b < w.heap.size) [t] (trCells t.l t.tk (.slice ka t.kids.length cap)) := by
    simp only [RepL]
    exact ⟨_, [], by simp, TreeV.rep hc hm (hr.mark.far hb (fun _ h => h)), rfl⟩
  have HW := hide hW
  clear hW
  simp only [trV]
  go_enter Tryd.func20, Tryd.ntmps20
  go_wp2_with fail
  rw [HW.out]
  clear HW
  go_loopg [3, 4] t.size (fun k v3 v4 wr => ∃ (l : List Tr) (xs : List Value) (a : Option Addr) (vc s : Nat), k = sizes l ∧ s + sizes l = t.size ∧ v3 = .int .i64 (s : Int) ∧ v4 = .slice a l.length vc ∧ wr.ownsRow w.heap.size tT 5 (.slice a l.length vc) l.length xs ∧ RepL wr (fun b => b < w.heap.size) l xs ∧ Below w.heap.size w wr)
  case atStart => exact ⟨[t], _, _, _, 0, by rw [sizes_one], by rw [sizes_one]; omega, rfl, rfl, ho0, hrl0, hb⟩
  case round =>
    obtain ⟨l, xs, a, vc, s, rfl, hs, rfl, rfl, ho, hrl, hbr⟩ := hrel
    clear ho0 hrl0 hr
    have HS := hide hs
    have hlen := sizes_len l
    rcases List.eq_nil_or_concat l with rfl | ⟨l', q, rfl⟩
    · simp only [sizes, Nat.add_zero] at hs
      subst hs
      go_wp2_with fail
      refine (show Post (.returned (.int .i64 (t.size : Int))) wr from ?_)
      rw [← HP.out]
      exact ⟨rfl, hbr⟩
    · rw [List.concat_eq_append] at *
      obtain ⟨xs', cq, rfl, hr1, hr2⟩ := hrl.last
      obtain ⟨ia, ic, rfl, m1, m2, m3⟩ := TreeV.of hr2
      have hl' : (l' ++ [q]).length = l'.length + 1 := by simp
      rw [hl'] at ho hlen ⊢
      rw [sizes_app, sizes_one] at hs hlen
      obtain ⟨g, c', ea⟩ := own_some ho (by omega)
      obtain ⟨rfl, rfl⟩ : a = some ⟨g, 0, none⟩ ∧ vc = c' := by injection ea with h1 _ h3; exact ⟨h1, h3⟩
      clear ea
      have hxs : xs'.length = l'.length * 5 := hr1.len
      have z : ∀ j u, (trCells q.l q.tk (.slice ia q.kids.length ic))[j]? = some u → wr.cell? ⟨g, l'.length * 5 + j, none⟩ = some u := fun j u hj => new_cell ho hxs rfl hj
      have z0 := z 0 _ rfl
      have z1 := z 1 _ rfl
      have z2 := z 2 _ rfl
      have z3 := z 3 _ rfl
      have z4 := z 4 _ rfl
      simp only [Nat.add_zero] at z0
      clear z
      have hvc : (l'.length : Int) ≤ (vc : Int) := by have := (own_room ho).1; omega
      have i1 : (0 : Int) ≤ (l'.length : Int) := by omega
      have i2 : (l'.length : Int) < (l'.length : Int) + 1 := by omega
      have hp := own_pop ho hxs
      have hq := size_eq q
      have hb2 : Below wr.heap.size wr (wr.alloc (.cells (trCells q.l q.tk (.slice ia q.kids.length ic)).toArray tT)) := (Below.refl _ _).alloc (Nat.le_refl _) _
      cases hql : q.l with
      | false =>
        rw [hql, if_neg (by simp)] at hq
        rw [hql] at z0
        have hwz := hbr.size
        go_wp2_with fail
        go_roundg (sizes l')
        case measure => rw [sizes_app, sizes_one]; omega
        case rel => exact ⟨l', xs', some ⟨g, 0, none⟩, vc, s + 1, rfl, by omega, by go_num, rfl, hp.alloc _, hr1.far ((Below.refl _ _).alloc hwz _) (fun _ h => h), hbr.alloc hwz _⟩
      | true =>
        rw [hql, if_pos rfl] at hq
        rw [hql] at z0
        obtain ⟨news, hn1, hn2, hn3⟩ := m3.row m2
        obtain ⟨i0, hi0, hz0, hz1, hz2⟩ := info_parts infoTr
        have hkl := sizes_len q.kids
        have hll := sizes_len l'
        have hwz := hbr.size
        go_wp2_with (at_builtin; refine wpList_append_src rfl _ _ 37 rfl w.heap.size tT i0 (.agg #[.bool false, .int .i64 0, .string ⟨#[]⟩, .int .i64 0, .slice none 0 0]) 5 64 Tryd.underlying37 hi0 hz0 hz1 hz2 rfl (by decide) _ _ _ rfl (hp.alloc _) ia q.kids.length ic news rfl hn1 ?c0 hn2.one ?c3 ?c4 ?c5 ?_)
        case c0 =>
          rcases hn3 with h | ⟨ad, e, h⟩
          · exact .inl h
          · exact .inr ⟨ad, e, fun j u hj => ck ((Below.refl _ _).alloc (Nat.le_refl _) _) (h j u hj)⟩
        case c3 => unfold maxLen; omega
        case c4 => omega
        case c5 => simp; omega
        intro v' w3 hown3 hg3
        obtain ⟨a', c3, rfl⟩ := own_form hown3
        have hbx : Below w.heap.size wr w3 := ((Below.refl _ _).alloc hwz _).trans (below_grown_row hg3 (hp.alloc _) (by simp; omega))
        have hr3 := (hr1.far hbx (fun _ h => h)).app (hn2.far hbx (fun _ h => h))
        clear hn3 hg3 z0 z1 z2 z3 z4
        go_wp2_with fail
        go_roundg (sizes (l' ++ q.kids))
        case measure => rw [sizes_app, sizes_app, sizes_one]; omega
        case rel => exact ⟨l' ++ q.kids, _, a', c3, s + 2, rfl, by rw [sizes_app]; omega, by go_num, by rw [List.length_append], by rw [List.length_append]; exact hown3, hr3, hbr.trans hbx⟩

theorem sizes_take {kids : List Tr} {i : Nat} (hi : i < kids.length) : sizes (kids.take (i + 1)) = sizes (kids.take i) + kids[i].size := by
  rw [List.take_succ_eq_append_getElem hi, sizes_app, sizes_one]
theorem sizes_part (kids : List Tr) (i : Nat) : sizes (kids.take i) ≤ sizes kids := by
  have := sizes_app (kids.take i) (kids.drop i)
  rw [List.take_append_drop] at this
  omega

set_option maxRecDepth 100000 in
set_option maxHeartbeats 1600000 in
theorem rsize_any : ∀ (t : Tr) (ka : Option Addr) (cap : Nat) (w : World), t.kids.length ≤ cap → CapOk ka cap → RepK w (fun _ => True) t.kids ka → t.size ≤ 1000000000 →
    Calls Tryd.prog 21 #[trV t.l t.tk ka t.kids.length cap] w fun e w' => e = .returned (.int .i64 (t.size : Int)) ∧ Below w.heap.size w w' := by
  refine Tr.ind fun l tk kids ih => ?_
  intro ka cap w hc hm hr hsz
  simp only [Tr.l, Tr.tk, Tr.kids] at hc hm hr ⊢
  generalize hP : (fun (e : Ending) (w' : World) => e = .returned (.int .i64 ((Tr.mk l tk kids).size : Int)) ∧ Below w.heap.size w w') = Post
  have HP := hide hP
  clear hP
  obtain ⟨W, hW⟩ : ∃ W, w.alloc (.cells #[.bool l, .int .i64 tk.1, .string ⟨tk.2.1.toArray⟩, .int .i64 tk.2.2, .slice ka kids.length cap] tT) = W := ⟨_, rfl⟩
  have hb : Below w.heap.size w W := by rw [← hW]; exact (Below.refl _ _).alloc (Nat.le_refl _) _
  have b1 : Blk W w.heap.size tT #[.bool l, .int .i64 tk.1, .string ⟨tk.2.1.toArray⟩, .int .i64 tk.2.2, .slice ka kids.length cap] := by rw [← hW]; exact Blk.new w _ _
  have HW := hide hW
  clear hW
  replace hr := hr.below hb
  have h63 : kids.length ≤ maxLen := Nat.le_trans hc hm.1
  unfold maxLen at h63
  simp only [trV]
  go_enter Tryd.func21, Tryd.ntmps21
  go_upto_region 1 with (fail)
  rw [HW.out]
  clear HW
  obtain ⟨c0, c1, c2, c3, c4⟩ := b1.c5
  cases l with
  | false =>
    have hq : (Tr.mk false tk kids).size = 1 := by simp [Tr.size]
    go_wp2_with fail
    refine (show Post (.returned (.int .i64 1)) W from ?_)
    rw [← HP.out]
    exact ⟨by rw [hq]; rfl, hb⟩
  | true =>
    have hq : (Tr.mk true tk kids).size = 2 + sizes kids := by simp [Tr.size]
    go_wp2_with fail
    go_loopg [3, 4] kids.length (fun k v3 v4 wr => ∃ i : Nat, i + k = kids.length ∧ v3 = .int .i64 ((2 + sizes (kids.take i) : Nat) : Int) ∧ v4 = .int .i64 (i : Int) ∧ Below W.heap.size W wr)
    case atStart => exact ⟨0, by omega, by simp [sizes], rfl, Below.refl _ _⟩
    case round =>
      obtain ⟨i, hik, rfl, rfl, hbr⟩ := hrel
      replace c4 := ck hbr c4
      have HI := hide hik
      rcases Nat.lt_or_ge i kids.length with hi | hi
      · obtain ⟨b, off, rfl, -, -, ia, ic, m1, m2, m3, x0, x1, x2, x3, x4⟩ := (hr.below hbr).at hi
        have hc1 := ih kids[i] (List.getElem_mem hi)
        have ht := sizes_take hi
        have hp := sizes_part kids (i + 1)
        clear hik ih
        have i1 : (0 : Int) ≤ (i : Int) := by omega
        have i2 : (i : Int) < (kids.length : Int) := by omega
        generalize kids[i] = q at hc1 ht m1 m2 m3 x0 x1 x2 x3 x4
        generalize sizes (kids.take i) = si at ht ⊢
        go_wp2_with (go_at_call 21; refine (hc1 ia ic _ m1 m2 m3 (by omega)).mono ?_; rintro e wN ⟨rfl, hb1⟩)
        have hik := HI.out
        go_roundg (gk - 1)
        case measure => omega
        case rel => exact ⟨i + 1, by omega, by rw [ht]; go_num, by go_num, hbr.trans (hb1.mono hbr.size)⟩
      · clear hik ih
        obtain rfl : i = kids.length := by have := HI.out; omega
        rw [List.take_length]
        go_wp2_with fail
        refine (show Post (.returned (.int .i64 ((2 + sizes kids : Nat) : Int))) wr from ?_)
        rw [← HP.out]
        exact ⟨by rw [hq], hb.trans (hbr.mono hb.size)⟩
end Go.Proofs.YtajlibegalbbmaaDoor
