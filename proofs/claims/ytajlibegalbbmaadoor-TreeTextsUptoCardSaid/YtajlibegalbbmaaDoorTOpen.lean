/- A tree that came in, opened; how much text it holds. -/
import Derived.Test.YtajlibegalbbmaaDoorOpenToks
import Derived.Test.YtajlibegalbbmaaDoorTLexLaw
namespace Go.Proofs.YtajlibegalbbmaaDoor
open Go.ChangeShapes Go.WideShapes Go.ChangeAt Go.RowKit

mutual
/-- How many bytes of text a tree's tokens have. -/
def lenT : Tr → Nat
  | .mk _ tk kids => tk.2.1.length + lenL kids
def lenL : List Tr → Nat
  | [] => 0
  | t :: r => lenT t + lenL r
end
theorem lenL_mem : ∀ {l : List Tr} {t : Tr}, t ∈ l → lenT t ≤ lenL l
  | x :: l, t, h => by
    simp only [lenL]
    rcases List.mem_cons.1 h with rfl | h
    · omega
    · have := lenL_mem h; omega
theorem small_len {n : Nat} : ∀ t : Tr, lenT t ≤ n → SmallT n t := by
  refine Tr.ind fun l tk kids ih => ?_
  intro h
  simp only [lenT] at h
  refine ⟨by simp only; omega, ?_⟩
  have key : ∀ ks : List Tr, (∀ k ∈ ks, k ∈ kids) → SmallL n ks := by
    intro ks
    induction ks with
    | nil => intro _; simp [SmallL, allL]
    | cons k ks ik =>
      intro hk
      simp only [SmallL, allL]
      exact ⟨ih k (hk k (by simp)) (by have := lenL_mem (hk k (by simp)); omega), ik fun x hx => hk x (by simp [hx])⟩
  exact key kids fun _ h => h
theorem text_len2 : ∀ (t : Tr) (s : List UInt8), textT t = some s → s.length + 1 ≤ 2 * lenT t + 4 * t.size := by
  refine Tr.ind fun l tk kids ih => ?_
  intro s h
  have key : ∀ (ks : List Tr), (∀ k ∈ ks, k ∈ kids) → ∀ (f : Bool) (u : List UInt8), textsT f ks = some u → u.length ≤ 2 * lenL ks + 4 * sizes ks := by
    intro ks
    induction ks with
    | nil => intro _ f u hu; simp only [textsT] at hu; injection hu with hu; subst hu; simp
    | cons k ks ik =>
      intro hks f u hu
      simp only [textsT] at hu
      cases hk : textT k with
      | none => rw [hk] at hu; cases hu
      | some a =>
        cases hr : textsT false ks with
        | none => rw [hk, hr] at hu; cases hu
        | some b =>
          rw [hk, hr] at hu
          injection hu with hu
          have e1 := ih k (hks k (by simp)) a hk
          have e2 := ik (fun x hx => hks x (by simp [hx])) false b hr
          rw [← hu]
          simp only [sizes, lenL, List.length_append]
          cases f <;> simp <;> omega
  cases l with
  | false =>
    replace h : wordK tk = some s := by simpa [textT] using h
    have := wordK_len h
    have e : (Tr.mk false tk kids).size = 1 := by simp [Tr.size]
    rw [e]
    simp only [lenT]
    omega
  | true =>
    rw [text_list] at h
    cases hk : textsT true kids with
    | none => rw [hk] at h; cases h
    | some u =>
      rw [hk] at h
      simp only [wrapT] at h
      injection h with h
      have := key kids (fun _ h => h) true u hk
      have e : (Tr.mk true tk kids).size = 2 + sizes kids := by simp [Tr.size]
      rw [e, ← h]
      simp only [lenT, List.length_cons, List.length_append, List.length_nil]
      omega

theorem rep_row {W : World} {ok : Nat → Prop} {b off : Nat} : ∀ (ts : List Tr) (k : Nat), (∀ i (h : i < ts.length), ∃ c, (∀ j u, c[j]? = some u → W.cell? ⟨b, off + (k + i) * 5 + j, none⟩ = some u) ∧ Rep W ok ts[i] c) → ∃ ks, RepL W ok ts ks ∧ ∀ j u, ks[j]? = some u → W.cell? ⟨b, off + k * 5 + j, none⟩ = some u
  | [], k, _ => ⟨[], by simp [RepL], fun j u hj => by simp at hj⟩
  | t :: ts, k, h => by
    obtain ⟨c, hc, hr⟩ := h 0 (by simp)
    obtain ⟨ks, h1, h2⟩ := rep_row (W := W) (ok := ok) (b := b) (off := off) ts (k + 1) (fun i hi => by
      obtain ⟨d, hd, hs⟩ := h (i + 1) (by simpa using hi)
      exact ⟨d, fun j u hj => by rw [show k + 1 + i = k + (i + 1) by omega]; exact hd j u hj, by simpa using hs⟩)
    refine ⟨c ++ ks, by simp only [RepL]; exact ⟨c, ks, rfl, by simpa using hr, h1⟩, fun j u hj => ?_⟩
    have h5 := hr.five
    rcases Nat.lt_or_ge j 5 with hlt | hge
    · rw [List.getElem?_append_left (by omega)] at hj
      simpa using hc j u hj
    · rw [List.getElem?_append_right (by omega), h5] at hj
      have := h2 (j - 5) u hj
      rwa [show off + (k + 1) * 5 + (j - 5) = off + k * 5 + j by omega] at this
theorem bulk_range {H : Type} (D : Nat → DataW H) : ∀ n, Rows.uptoBulkAll ((List.range n).map D) = ((List.range n).map fun i => Rows.uptoBulk (D i)).sum := by
  have key : ∀ l : List Nat, Rows.uptoBulkAll (l.map D) = (l.map fun i => Rows.uptoBulk (D i)).sum := by
    intro l
    induction l with
    | nil => rfl
    | cons x l ih => simp only [List.map_cons, Rows.uptoBulkAll, ih, List.sum_cons]
  exact fun n => key _
theorem lenL_range {D : Nat → Nat} : ∀ (ts : List Tr), (∀ i (h : i < ts.length), lenT ts[i] ≤ D i) → lenL ts ≤ ((List.range ts.length).map D).sum := by
  intro ts
  induction ts generalizing D with
  | nil => intro _; simp [lenL]
  | cons t ts ih =>
    intro h
    have h0 := h 0 (by simp)
    have h1 := ih (D := fun i => D (i + 1)) (fun i hi => h (i + 1) (by simpa using hi))
    simp only [lenL, List.length_cons, List.range_succ_eq_map, List.map_cons, List.map_map, List.sum_cons]
    have e : (fun i => D (i + 1)) = D ∘ Nat.succ := rfl
    rw [← e]
    simp only [List.getElem_cons_zero] at h0
    omega
theorem bulk_mem {H : Type} {d : DataW H} : ∀ {l : List (DataW H)}, d ∈ l → Rows.uptoBulk d ≤ Rows.uptoBulkAll l
  | x :: l, h => by
    simp only [Rows.uptoBulkAll]
    rcases List.mem_cons.1 h with rfl | h
    · omega
    · have := bulk_mem h; omega

theorem RepK_of_row {W : World} {ok : Nat → Prop} {b off : Nat} {ts : List Tr} (h : ∃ ks, RepL W ok ts ks ∧ ∀ j u, ks[j]? = some u → W.cell? ⟨b, off + j, none⟩ = some u) (hok : ok b) (hlt : b < W.heap.size) : RepK W ok ts (some ⟨b, off, none⟩) := by
  obtain ⟨ks, h1, h2⟩ := h
  cases ts with
  | nil => simp [RepK]
  | cons t r =>
    simp only [RepL] at h1
    obtain ⟨c, k, rfl, g1, g2⟩ := h1
    simp only [RepK]
    exact ⟨b, off, c, k, rfl, hok, hlt, h2, g1, g2⟩

theorem open_tree {H : Type} {enc : TypeId × Value → H} {W : World} : ∀ (N fuel : Nat) (cs : List Value) (x : DataW H × List MemPlace), DataW.trod enc Tryd.prog W 0 (fun _ => true) true fuel tT cs = some x → Rows.uptoBulk x.1 ≤ N → ∃ t : Tr, Rep W (fun _ => True) t cs ∧ lenT t ≤ Rows.uptoBulk x.1 := by
  intro N
  induction N with
  | zero =>
    intro fuel cs x h hN
    exfalso
    obtain ⟨y0, y1, y2, n, rfl, -⟩ := Go.Deep.trod_struct3 Tryd.underlying45 h
    simp only [Rows.uptoBulk] at hN
    omega
  | succ N ih =>
    intro fuel cs x h hN
    obtain ⟨y0, y1, y2, n, rfl, hlen, h0, h1, h2⟩ := Go.Deep.trod_struct3 Tryd.underlying45 h
    have hC : Tryd.prog.cellsOf tT = 5 := by kernel_rfl
    rw [hC] at hlen
    match cs, hlen with
    | [c0, c1, c2, c3, c4], _ =>
      have k4 : Tryd.prog.cellsOf 4 = 1 := by kernel_rfl
      have kt : Tryd.prog.cellsOf 23 = 3 := by kernel_rfl
      have kk : Tryd.prog.cellsOf 37 = 1 := by kernel_rfl
      simp only [k4, kt, kk] at h0 h1 h2
      obtain ⟨l, e0, _⟩ := DataW.trod_bool Tryd.underlying4 h0
      obtain ⟨z0, z1, z2, n', rfl, _, g0, g1, g2⟩ := Go.Deep.trod_struct3 Tryd.underlying23 h1
      have k3 : Tryd.prog.cellsOf 3 = 1 := by kernel_rfl
      have k9 : Tryd.prog.cellsOf 9 = 1 := by kernel_rfl
      simp only [k3, k9] at g0 g1 g2
      obtain ⟨k, d0, _, _⟩ := DataW.trod_int Tryd.underlying3 g0
      obtain ⟨s, d1, es, _⟩ := DataW.trod_string Tryd.underlying9 g1
      obtain ⟨a, d2, _, _⟩ := DataW.trod_int Tryd.underlying3 g2
      simp at e0 d0 d1 d2
      subst e0 d0 d1 d2 es
      simp only [Rows.uptoBulk, Rows.uptoBulkAll] at hN ⊢
      rcases Go.Deep.open_slice Tryd.underlying37 h2 with ⟨hcs, ex⟩ | ⟨a', len, cap, m, n2, D, Pl, hcs, _, hl, hm, hmm, ex, hi⟩
      · simp at hcs
        subst hcs
        refine ⟨.mk l (k, s.data.toList, a) [], ?_, ?_⟩
        · simp only [Rep]
          exact ⟨none, 0, by simp [trCells], Nat.le_refl _, ⟨Nat.zero_le _, fun _ => rfl⟩, by simp [RepK]⟩
        · simp [lenT, lenL]; omega
      · simp at hcs
        subst hcs
        rw [ex] at hN ⊢
        simp only [Rows.uptoBulk, if_true] at hmm hN ⊢
        rw [hC] at hi
        have key : ∀ i, i < len → ∃ t : Tr, ∃ cs', W.cells? 0 (a'.add (i * 5)) 5 = some cs' ∧ Rep W (fun _ => True) t cs' ∧ lenT t ≤ Rows.uptoBulk (D i) := by
          intro i him
          obtain ⟨cs', hc, ht'⟩ := hi i (by omega)
          have hle : Rows.uptoBulk (D i) ≤ Rows.uptoBulkAll ((List.range len).map D) := bulk_mem (List.mem_map.2 ⟨i, List.mem_range.2 him, rfl⟩)
          obtain ⟨t, h1, h2⟩ := ih n2 cs' (D i, Pl i) ht' (by simp only; omega)
          exact ⟨t, cs', hc, h1, h2⟩
        obtain ⟨ts, hts, hP⟩ := choose_list _ len key
        have hsum := lenL_range (D := fun i => Rows.uptoBulk (D i)) ts (fun i hi => by obtain ⟨_, _, _, h⟩ := hP i hi; exact h)
        rw [hts, ← bulk_range] at hsum
        refine ⟨.mk l (k, s.data.toList, a) ts, ?_, ?_⟩
        · simp only [Rep]
          refine ⟨some a', cap, by simp [trCells, hts], by omega, ⟨hm, fun h => by cases h⟩, ?_⟩
          rcases Nat.eq_zero_or_pos len with h0' | h0'
          · rw [List.eq_nil_of_length_eq_zero (hts.trans h0')]
            simp [RepK]
          · obtain ⟨cs0, hc0, hr0, _⟩ := hP 0 (by omega)
            obtain ⟨_, hcl0, hat0⟩ := World.cells?_some hc0
            have hz := hat0 0 (by omega)
            rw [Go.Deep.add_add] at hz
            obtain ⟨u, hu⟩ : ∃ u, cs0[0]? = some u := ⟨cs0[0]'(by rw [hcl0]; omega), by rw [List.getElem?_eq_getElem]⟩
            rw [hu] at hz
            have hx : a' = ⟨a'.block, a'.off, none⟩ := spot_none (by simpa [Addr.add] using hz)
            have hlt := World.block_lt_of_cell? W _ hz
            rw [hx] at hP hlt ⊢
            refine RepK_of_row ?_ trivial (by simpa [Addr.add] using hlt)
            obtain ⟨ks, g1, g2⟩ := rep_row (W := W) (ok := fun _ => True) (b := a'.block) (off := a'.off) ts 0 (fun i hi => by
              obtain ⟨cs', hc, hr, _⟩ := hP i hi
              obtain ⟨_, hcl, hat⟩ := World.cells?_some hc
              refine ⟨cs', fun j u hj => ?_, hr⟩
              have hjl : j < 5 := by rw [← hcl]; exact (List.getElem?_eq_some_iff.1 hj).1
              have := hat j hjl
              rw [Go.Deep.add_add, add_plain, hj] at this
              rwa [show a'.off + (0 + i) * 5 + j = a'.off + (i * 5 + j) by omega])
            exact ⟨ks, g1, by simpa using g2⟩
        · simp only [lenT]
          have : s.data.toList.length = s.data.toList.length := rfl
          omega
end Go.Proofs.YtajlibegalbbmaaDoor
