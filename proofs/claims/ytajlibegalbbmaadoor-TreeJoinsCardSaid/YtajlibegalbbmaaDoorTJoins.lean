/- The walk of the law TreeJoins. -/
import Derived.Test.YtajlibegalbbmaaDoorTReads
namespace Go.Proofs.YtajlibegalbbmaaDoor
open Go.RowKit

theorem run_err {deep : Int} : ∀ (l : List Tk) (b : List Fr) (f : Fr) (x : Int × Int), runT deep b f l = .error x → x.1 = 4 ∨ x.1 = 11
  | [], b, f, x, h => by
    unfold runT at h
    split at h
    · cases h
    · injection h with h; subst h; exact .inr rfl
  | tk :: r, b, f, x, h => by
    unfold runT at h
    split at h
    · rename_i e he
      injection h with h
      subst h
      unfold stepT at he
      split at he
      · split at he
        · injection he with he; subst he; exact .inl rfl
        · cases he
      · split at he
        · split at he
          · injection he with he; subst he; exact .inr rfl
          · cases he
        · cases he
    · exact run_err r _ _ x h
theorem tres_ok {deep : Int} {l : List Tk} {a : Int} {ts : List Tr} (h : resTr (treesT deep l) = (0, a, ts)) : treesT deep l = .ok ts := by
  cases hr : treesT deep l with
  | ok x => rw [hr] at h; unfold resTr at h; injection h with _ h; injection h with _ h; rw [h]
  | error x =>
    exfalso
    rw [hr] at h
    unfold resTr at h
    injection h with h1 _
    rcases run_err l _ _ x hr with e | e <;> omega
/-- Two stacks, the second's outermost list with more ahead. -/
def Ahead (k0 : List Tr) (b : List Fr) (f : Fr) (b' : List Fr) (f' : Fr) : Prop :=
  (b = [] ∧ b' = [] ∧ f'.kids = k0 ++ f.kids) ∨ ∃ g g' r, b = g :: r ∧ b' = g' :: r ∧ g'.kids = k0 ++ g.kids ∧ f = f'
theorem step_ahead {deep : Int} {k0 : List Tr} {b b' : List Fr} {f f' : Fr} (h : Ahead k0 b f b' f') (tk : Tk) :
    (∃ e, stepT deep b f tk = .error e ∧ stepT deep b' f' tk = .error e) ∨ ∃ c g c' g', stepT deep b f tk = .ok (c, g) ∧ stepT deep b' f' tk = .ok (c', g') ∧ Ahead k0 c g c' g' := by
  have hlen : b.length = b'.length := by
    rcases h with ⟨rfl, rfl, -⟩ | ⟨g, g', r, rfl, rfl, -, -⟩ <;> simp
  unfold stepT
  by_cases h1 : tk.1 = 1
  · simp only [if_pos h1, ← hlen]
    by_cases h2 : deep ≤ (b.length : Int)
    · rw [if_pos h2, if_pos h2]; exact .inl ⟨_, rfl, rfl⟩
    · rw [if_neg h2, if_neg h2]
      refine .inr ⟨_, _, _, _, rfl, rfl, ?_⟩
      rcases h with ⟨rfl, rfl, hk⟩ | ⟨g, g', r, rfl, rfl, hk, rfl⟩
      · exact .inr ⟨f, f', [], rfl, rfl, hk, rfl⟩
      · exact .inr ⟨g, g', r ++ [f], rfl, rfl, hk, rfl⟩
  · simp only [if_neg h1]
    by_cases h2 : tk.1 = 2
    · simp only [if_pos h2]
      rcases h with ⟨rfl, rfl, hk⟩ | ⟨g, g', r, rfl, rfl, hk, rfl⟩
      · exact .inl ⟨_, rfl, rfl⟩
      · right
        cases r with
        | nil => exact ⟨[], _, [], _, rfl, rfl, .inl ⟨rfl, rfl, by simp [Fr.add, hk]⟩⟩
        | cons x r =>
          have e : ∀ y : Fr, (y :: x :: r).getLast? = some ((x :: r).getLast (by simp)) := fun y => by simp [List.getLast?_eq_some_getLast, List.getLast_cons]
          refine ⟨_, _, _, _, by rw [e], by rw [e], .inr ⟨g, g', (x :: r).dropLast, ?_, ?_, hk, rfl⟩⟩ <;> simp
    · simp only [if_neg h2]
      refine .inr ⟨_, _, _, _, rfl, rfl, ?_⟩
      rcases h with ⟨rfl, rfl, hk⟩ | ⟨g, g', r, rfl, rfl, hk, rfl⟩
      · exact .inl ⟨rfl, rfl, by simp [Fr.add, hk]⟩
      · exact .inr ⟨g, g', r, rfl, rfl, hk, rfl⟩
theorem run_ahead {deep : Int} {k0 : List Tr} : ∀ (l : List Tk) {b b' : List Fr} {f f' : Fr}, Ahead k0 b f b' f' → ∀ ts, runT deep b f l = .ok ts → runT deep b' f' l = .ok (k0 ++ ts)
  | [], b, b', f, f', h, ts, hr => by
    rcases h with ⟨rfl, rfl, hk⟩ | ⟨g, g', r, rfl, rfl, -, rfl⟩
    · simp only [runT, List.length_nil, if_pos] at hr ⊢
      injection hr with hr
      rw [hk, hr]
    · simp [runT] at hr
  | tk :: r, b, b', f, f', h, ts, hr => by
    unfold runT at hr ⊢
    rcases step_ahead h tk with ⟨e, h1, h2⟩ | ⟨c, g, c', g', h1, h2, h3⟩
    · rw [h1] at hr; cases hr
    · rw [h1] at hr
      rw [h2]
      exact run_ahead r h3 ts hr
/-- Two rows of tokens, one behind the other. -/
theorem run_join {deep : Int} : ∀ (l l2 : List Tk) (b : List Fr) (f : Fr) (x y : List Tr), runT deep b f l = .ok x → runT deep [] ⟨false, (0, [], 0), []⟩ l2 = .ok y → runT deep b f (l ++ l2) = .ok (x ++ y)
  | [], l2, b, f, x, y, h, h2 => by
    unfold runT at h
    split at h
    · rename_i hb
      have hb' := List.eq_nil_of_length_eq_zero hb
      subst hb'
      injection h with h
      rw [List.nil_append, ← h]
      exact run_ahead l2 (.inl ⟨rfl, rfl, by simp⟩) y h2
    · cases h
  | tk :: r, l2, b, f, x, y, h, h2 => by
    rw [List.cons_append]
    unfold runT at h ⊢
    cases hs : stepT deep b f tk with
    | error e => rw [hs] at h; cases h
    | ok p =>
      rw [hs] at h
      exact run_join r l2 p.1 p.2 x y h h2
theorem trees_join {deep : Int} {l l2 : List Tk} {x y : List Tr} (h : treesT deep l = .ok x) (h2 : treesT deep l2 = .ok y) : treesT deep (l ++ l2) = .ok (x ++ y) := run_join l l2 _ _ x y h h2
/-- How many tokens stand in the lists. -/
def cntT (b : List Fr) (f : Fr) : Nat := match b with
  | [] => sizes f.kids
  | g :: r => sizes g.kids + ((r ++ [f]).map fun x => 1 + sizes x.kids).sum
def openT (b : List Fr) (f : Fr) : Prop := ∀ x ∈ (b ++ [f]).tail, x.l = true
theorem run_size {deep : Int} : ∀ (l : List Tk) (b : List Fr) (f : Fr) (ts : List Tr), openT b f → runT deep b f l = .ok ts → sizes ts = cntT b f + l.length
  | [], b, f, ts, _, h => by
    unfold runT at h
    split at h
    · rename_i hb
      have hb' := List.eq_nil_of_length_eq_zero hb
      subst hb'
      injection h with h
      simp [cntT, h]
    · cases h
  | tk :: r, b, f, ts, ho, h => by
    unfold runT at h
    have key : ∀ b' f', stepT deep b f tk = .ok (b', f') → openT b' f' ∧ cntT b' f' = cntT b f + 1 := by
      intro b' f' hs
      unfold stepT at hs
      split at hs
      · split at hs
        · cases hs
        · injection hs with hs
          injection hs with e1 e2
          subst e1 e2
          refine ⟨fun x hx => ?_, ?_⟩
          · cases b with
            | nil => simp at hx; subst hx; rfl
            | cons g b =>
              have : x ∈ b ++ [f] ∨ x = ⟨true, tk, []⟩ := by simpa [or_assoc] using hx
              rcases this with h | rfl
              · exact ho x (by simpa using h)
              · rfl
          · cases b with
            | nil => simp [cntT, sizes]
            | cons g b => simp [cntT, sizes]; omega
      · split at hs
        · split at hs
          · cases hs
          · rename_i g hg
            injection hs with hs
            injection hs with e1 e2
            subst e1 e2
            obtain ⟨c, rfl⟩ : ∃ c, b = c ++ [g] := by
              rcases List.eq_nil_or_concat b with rfl | ⟨c, y, rfl⟩
              · simp at hg
              · simp at hg; subst hg; exact ⟨c, by simp⟩
            have hfl : f.l = true := ho f (by cases c <;> simp)
            have hsz : f.tree.size = 2 + sizes f.kids := by simp [Fr.tree, Tr.size, hfl]
            simp only [List.dropLast_concat]
            refine ⟨fun x hx => ?_, ?_⟩
            · cases c with
              | nil => simp at hx
              | cons d c =>
                have : x ∈ c ∨ x = g.add f.tree := by simpa using hx
                rcases this with h | rfl
                · exact ho x (by simp [h])
                · exact ho g (by simp)
            · cases c with
              | nil => simp [cntT, Fr.add, sizes_app, sizes_one, hsz]; omega
              | cons d c => simp [cntT, Fr.add, sizes_app, sizes_one, hsz]; omega
        · injection hs with hs
          injection hs with e1 e2
          subst e1 e2
          refine ⟨fun x hx => ?_, ?_⟩
          · cases b with
            | nil => simp at hx
            | cons g b =>
              have : x ∈ b ∨ x = f.add (.mk false tk []) := by simpa using hx
              rcases this with h | rfl
              · exact ho x (by simp [h])
              · exact ho f (by simp)
          · cases b with
            | nil => simp [cntT, Fr.add, sizes_app, sizes_one, Tr.size]
            | cons g b => simp [cntT, Fr.add, sizes_app, sizes_one, Tr.size]; omega
    cases hs : stepT deep b f tk with
    | error e => rw [hs] at h; cases h
    | ok p =>
      rw [hs] at h
      obtain ⟨k1, k2⟩ := key p.1 p.2 hs
      rw [run_size r p.1 p.2 ts k1 h, k2, List.length_cons]
      omega
theorem trees_size {deep : Int} {l : List Tk} {x : List Tr} (h : treesT deep l = .ok x) : sizes x = l.length := by
  have := run_size l [] ⟨false, (0, [], 0), []⟩ x (by intro y hy; simp at hy) h
  simpa [cntT, sizes] using this

/-- An operation whose guard says yes goes as if it had none. -/
theorem wpList_unguard {P : Program} {ops : Array Oper} {Q : Exit → Act → World → Prop} {a : Act} {w : World} {rest : List Oper} {o : Oper} (hw : Region.wanted o (yielded ops a.tmps) = true) (h : wpList P ops Q ({ o with guard := none } :: rest) a w) : wpList P ops Q (o :: rest) a w := by
  obtain ⟨dst, op, ty, pos, after, guard⟩ := o
  unfold wpList at h ⊢
  rw [if_pos hw]
  have hw' : Region.wanted ⟨dst, op, ty, pos, after, none⟩ (yielded ops a.tmps) = true := rfl
  rw [if_pos hw'] at h
  exact h
def tkCells (l : List Tok) : List Value := l.flatMap fun x => [.int .i64 x.1, .string ⟨x.2.1.toArray⟩, .int .i64 x.2.2]
theorem tkCells_cons (x : Tok) (l : List Tok) : tkCells (x :: l) = .int .i64 x.1 :: .string ⟨x.2.1.toArray⟩ :: .int .i64 x.2.2 :: tkCells l := rfl
theorem tkCells_len : ∀ l : List Tok, (tkCells l).length = l.length * 3
  | [] => rfl
  | x :: l => by rw [tkCells_cons]; simp only [List.length_cons, tkCells_len l]; omega
theorem tkCells_app (l r : List Tok) : tkCells (l ++ r) = tkCells l ++ tkCells r := by simp [tkCells]
theorem tkCells_one (l : List Tok) : ∀ u ∈ tkCells l, u.oneCell' = true := by
  intro u hu
  simp only [tkCells, List.mem_flatMap] at hu
  obtain ⟨x, _, hu⟩ := hu
  simp at hu
  rcases hu with rfl | rfl | rfl <;> rfl
theorem tkCells_at : ∀ (l : List Tok) (i : Nat) (h : i < l.length), (tkCells l)[i * 3]? = some (.int .i64 l[i].1) ∧ (tkCells l)[i * 3 + 1]? = some (.string ⟨l[i].2.1.toArray⟩) ∧ (tkCells l)[i * 3 + 2]? = some (.int .i64 l[i].2.2)
  | x :: l, 0, _ => by simp [tkCells_cons]
  | x :: l, i + 1, h => by
    have := tkCells_at l i (by simpa using h)
    rw [tkCells_cons, show (i + 1) * 3 = i * 3 + 1 + 1 + 1 by omega]
    simpa using this
theorem TokIn.src {w : World} {B : Nat} {a : Option Addr} {cap : Nat} {ts : List Tok} (h : TokIn w B a ts) (hc : a = none → cap = 0) : (a = none ∧ ts.length = 0 ∧ cap = 0) ∨ ∃ ad, a = some ad ∧ ∀ j u, (tkCells ts)[j]? = some u → w.cell? (ad.add j) = some u := by
  rcases Nat.eq_zero_or_pos ts.length with h0 | h0
  · cases a with
    | none => exact .inl ⟨rfl, h0, hc rfl⟩
    | some ad =>
      refine .inr ⟨ad, rfl, fun j u hj => ?_⟩
      rw [List.eq_nil_of_length_eq_zero h0] at hj
      simp [tkCells] at hj
  · obtain ⟨b, off, rfl, _, hcl⟩ := h h0
    refine .inr ⟨_, rfl, fun j u hj => ?_⟩
    have hlt : j < ts.length * 3 := by rw [← tkCells_len]; exact (List.getElem?_eq_some_iff.1 hj).1
    have hi : j / 3 < ts.length := by omega
    obtain ⟨x0, x1, x2⟩ := hcl _ hi
    obtain ⟨y0, y1, y2⟩ := tkCells_at ts _ hi
    rw [add_plain]
    have hm : j % 3 = 0 ∨ j % 3 = 1 ∨ j % 3 = 2 := by omega
    rcases hm with e | e | e
    · have ej : j = j / 3 * 3 := by omega
      rw [ej] at hj ⊢
      rw [hj] at y0
      rw [show off + j / 3 * 3 = off + j / 3 * 3 from rfl, Option.some.inj y0]
      exact x0
    · have ej : j = j / 3 * 3 + 1 := by omega
      rw [ej] at hj ⊢
      rw [hj] at y1
      rw [← Nat.add_assoc, Option.some.inj y1]
      exact x1
    · have ej : j = j / 3 * 3 + 2 := by omega
      rw [ej] at hj ⊢
      rw [hj] at y2
      rw [← Nat.add_assoc, Option.some.inj y2]
      exact x2
theorem TokIn.of_own {w : World} {B : Nat} {a : Option Addr} {c n : Nat} {ts : List Tok} (h : w.ownsRow B 23 3 (.slice a n c) n (tkCells ts)) : TokIn w w.heap.size a ts := by
  intro hn
  have hl : n * 3 = ts.length * 3 := by rw [← h.1, tkCells_len]
  obtain ⟨g, c', ea⟩ := own_some h (by omega)
  injection ea with ea _ _
  subst ea
  refine ⟨g, 0, rfl, (h.lt g rfl).2, fun i hi => ?_⟩
  obtain ⟨y0, y1, y2⟩ := tkCells_at ts i hi
  exact ⟨by simpa using own_cell h rfl y0, by simpa using own_cell h rfl y1, by simpa using own_cell h rfl y2⟩

set_option maxRecDepth 100000 in
set_option maxHeartbeats 3200000 in
theorem tjoins_walk (a0 : Option Addr) (cap0 : Nat) (ts : List Tok) (a1 : Option Addr) (cap1 : Nat) (us : List Tok) (w : World) (m : Int) (hm : w.cell? ⟨0, 0, none⟩ = some (.int .i64 m)) (ht : TokIn w w.heap.size a0 ts) (hu : TokIn w w.heap.size a1 us) (hc0 : a0 = none → cap0 = 0) (hc1 : a1 = none → cap1 = 0) (hts : ts.length ≤ 9223372036854775807) (hus : us.length ≤ 9223372036854775807) :
    Calls Tryd.prog 7 #[.slice a0 ts.length cap0, .slice a1 us.length cap1] w fun e w' => e = .returned (.bool true) ∧ Below w.heap.size w w' := by
  go_enter Tryd.func7, Tryd.ntmps7
  go_wp2_with fail
  refine (tspeaks_any _ m hm).mono ?_
  rintro e w1 ⟨rfl, hb1⟩
  by_cases hl : ts.length ≤ 1000
  · by_cases hl2 : us.length ≤ 1000
    · have e1 : decide ((1000 : Int) < (ts.length : Int)) = false := decide_eq_false (by omega)
      have e2 : decide ((1000 : Int) < (us.length : Int)) = false := decide_eq_false (by omega)
      have ht1 := ht.keep hb1 hb1.size
      have hu1 := hu.keep hb1 hb1.size
      clear ht hu hts hus
      go_wp2_with fail
      refine (tReads_any w1 a0 cap0 ts 100 ht1 (by omega)).mono ?_
      intro e w2 h2
      obtain ⟨hb2, ka, cap, rfl, g1, g2, g3⟩ := h2.sum
      clear h2
      obtain ⟨R, hR⟩ : ∃ R, resTr (treesT 100 ts) = R := ⟨_, rfl⟩
      rw [hR] at g1 g3 ⊢
      obtain ⟨c, a, x⟩ := R
      simp only at g1 g3 ⊢
      unfold faultAgg
      obtain ⟨W, hW⟩ : ∃ W, w2.alloc (.cells #[.int .i64 c, .int .i64 a] 31) = W := ⟨_, rfl⟩
      have hb3 : Below w2.heap.size w2 W := by rw [← hW]; exact (Below.refl _ _).alloc (Nat.le_refl _) _
      have b3 : Blk W w2.heap.size 31 #[.int .i64 c, .int .i64 a] := by rw [← hW]; exact Blk.new _ _ _
      have HW := hide hW
      clear hW
      go_upto_region 6 with (fail)
      rw [HW.out]
      clear HW
      have hbA := hb2.trans (hb3.mono hb2.size)
      have ht2 := ht1.keep hbA hbA.size
      have hu2 := hu1.keep hbA hbA.size
      have k3 := (g3.any).below hb3
      clear hb2 hb3 g3
      generalize w2.heap.size = G3 at b3 ⊢
      go_wp2_with (go_at_call 14; refine (tReads_any W a1 cap1 us 100 hu2 (by omega)).mono ?_)
      intro e w4 h4
      obtain ⟨hb4, kb, capb, rfl, p1, p2, p3⟩ := h4.sum
      clear h4
      obtain ⟨S, hS⟩ : ∃ S, resTr (treesT 100 us) = S := ⟨_, rfl⟩
      rw [hS] at p1 p3 ⊢
      obtain ⟨c', a', y⟩ := S
      simp only at p1 p3 ⊢
      unfold faultAgg
      obtain ⟨V, hV⟩ : ∃ V, w4.alloc (.cells #[.int .i64 c', .int .i64 a'] 31) = V := ⟨_, rfl⟩
      have hb5 : Below w4.heap.size w4 V := by rw [← hV]; exact (Below.refl _ _).alloc (Nat.le_refl _) _
      have b5 : Blk V w4.heap.size 31 #[.int .i64 c', .int .i64 a'] := by rw [← hV]; exact Blk.new _ _ _
      have HV := hide hV
      clear hV
      go_upto_region 7 with (fail)
      rw [HV.out]
      clear HV
      have hbB := hb4.trans (hb5.mono hb4.size)
      have b6 := b3.below hbB b3.lt
      have k6 := k3.below hbB
      have l6 := (p3.any).below hb5
      have ht3 := ht2.keep hbB hbB.size
      have hu3 := hu2.keep hbB hbB.size
      have hbV := hb1.trans ((hbA.trans (hbB.mono hbA.size)).mono hb1.size)
      clear hb4 hb5 p3 b3 k3 ht1 hu1 ht2 hu2 hbA hbB
      generalize w4.heap.size = G5 at b5 ⊢
      obtain ⟨c0, c1, -⟩ := b6.c2'
      obtain ⟨d0, d1, -⟩ := b5.c2'
      by_cases hcz : c = 0
      · subst hcz
        by_cases hcz' : c' = 0
        · subst hcz'
          have hx := tres_ok hR
          have hy := tres_ok hS
          have hz := trees_join hx hy
          have hnx := trees_size hz
          have own0 : (V.alloc (.cells #[] 23)).ownsRow V.heap.size 23 3 (.slice (some ⟨V.heap.size, 0, none⟩) 0 0) 0 [] :=
            ⟨rfl, .inr ⟨V.heap.size, 0, _, rfl, Nat.le_refl _, heap_alloc_new V _, Nat.le_refl _, Nat.zero_le _, rfl, rfl⟩⟩
          obtain ⟨V0, hV0⟩ : ∃ V0, V.alloc (.cells #[] 23) = V0 := ⟨_, rfl⟩
          rw [hV0] at own0
          have hbV0 : Below V.heap.size V V0 := by rw [← hV0]; exact (Below.refl _ _).alloc (Nat.le_refl _) _
          obtain ⟨i0, hi0, hz0, hz1, hz2⟩ := info_parts infoTok
          have hvs := hbV0.size
          have hsr := (ht3.keep hbV0 hvs).src hc0
          have HX := hide hx
          have HY := hide hy
          have HZ := hide hz
          have HN := hide hnx
          clear hx hy hz hnx hR hS
          go_wp2_with (at_builtin; refine wpList_append_src rfl (.tmp 43) (.tmp 44) 28 rfl V.heap.size 23 i0 (.agg #[.int .i64 0, .string ⟨#[]⟩, .int .i64 0]) 3 32 Tryd.underlying28 hi0 hz0 hz1 hz2 rfl (by decide) _ _ _ rfl own0 a0 ts.length cap0 (tkCells ts) rfl (tkCells_len ts) hsr (tkCells_one ts) ?c3 ?c4 ?c5 ?_)
          case c3 => unfold maxLen; omega
          case c4 => omega
          case c5 => exact hvs
          intro v1 wA ownA hgA
          have hbA : Below V.heap.size V0 wA := below_grown_row hgA own0 hvs
          obtain ⟨aA, cA, rfl⟩ := own_form ownA
          have hsu := (hu3.keep (hbV0.trans hbA) (Nat.le_trans hvs hbA.size)).src hc1
          go_wp2_with (at_builtin; refine wpList_append_src rfl (.tmp 45) (.tmp 46) 28 rfl V.heap.size 23 i0 (.agg #[.int .i64 0, .string ⟨#[]⟩, .int .i64 0]) 3 32 Tryd.underlying28 hi0 hz0 hz1 hz2 rfl (by decide) _ _ _ rfl ownA a1 us.length cap1 (tkCells us) rfl (tkCells_len us) hsu (tkCells_one us) ?c6 ?c7 ?c8 ?_)
          case c6 => unfold maxLen; omega
          case c7 => omega
          case c8 => exact Nat.le_trans hvs hbA.size
          intro v2 wB ownB hgB
          have hbB : Below V.heap.size wA wB := below_grown_row hgB ownA (Nat.le_trans hvs hbA.size)
          obtain ⟨aB, cB, rfl⟩ := own_form ownB
          have htB : TokIn wB wB.heap.size aB (ts ++ us) := TokIn.of_own (by rw [tkCells_app]; exact ownB)
          have hRd := tReads_any wB aB cB (ts ++ us) 100 htB (by simp; omega)
          rw [HZ.out, List.length_append] at hRd
          have hbVB : Below V.heap.size V wB := (hbV0.trans hbA).trans hbB
          clear htB ownB hgB ownA hgA hsu hsr own0 hV0 hbV0 hbA hbB
          go_wp2_with (go_at_call 14; refine hRd.mono ?_)
          intro e w6 h6
          obtain ⟨hb6, kz, capz, rfl, q1, q2, q3⟩ := h6.sum
          clear h6 hRd
          simp only [resTr] at q1 q3 ⊢
          unfold faultAgg
          have hsum := HN.out
          obtain ⟨zz, hzz⟩ : ∃ zz, x ++ y = zz := ⟨_, rfl⟩
          rw [hzz] at q1 q3 hsum ⊢
          have HZZ := hide hzz
          clear hzz HZ
          obtain ⟨W7, hW7⟩ : ∃ W7, w6.alloc (.cells #[.int .i64 0, .int .i64 0] 31) = W7 := ⟨_, rfl⟩
          have hb7 : Below w6.heap.size w6 W7 := by rw [← hW7]; exact (Below.refl _ _).alloc (Nat.le_refl _) _
          have b7 : Blk W7 w6.heap.size 31 #[.int .i64 0, .int .i64 0] := by rw [← hW7]; exact Blk.new _ _ _
          have HW7 := hide hW7
          clear hW7
          go_upto_region 10 with (fail)
          rw [HW7.out]
          clear HW7
          have hbV7 : Below V.heap.size V W7 := (hbVB.trans (hb6.mono hbVB.size)).trans (hb7.mono (Nat.le_trans hbVB.size hb6.size))
          have k7 := k6.below hbV7
          have l7 := l6.below hbV7
          have z7 := (q3.any).below hb7
          generalize w6.heap.size = G7 at b7 ⊢
          clear q3 k6 l6 b6 b5 c0 c1 d0 d1 ht3 hu3 hb6 hb7 hbVB
          have hlz : zz.length ≤ 2000 := by have := sizes_len zz; rw [hsum] at this; simp only [List.length_append] at this; omega
          clear HN HX HY
          go_wp2_with fail
          go_loopg [11, 53] zz.length (fun k v11 v53 wr => ∃ i : Nat, i + k = zz.length ∧ v53 = .int .i64 (i : Int) ∧ v11 = .int .i64 ((sizes (zz.take i) : Nat) : Int) ∧ Below W7.heap.size W7 wr)
          case atStart => exact ⟨0, by omega, rfl, by simp [sizes], Below.refl _ _⟩
          case round =>
            obtain ⟨i, hik, rfl, rfl, hbr⟩ := hrel
            have HI := hide hik
            rcases Nat.lt_or_ge i zz.length with hi | hi
            · obtain ⟨bz, off, rfl, -, -, ia, ic, m1, m2, m3, x0, x1, x2, x3, x4⟩ := (z7.below hbr).at hi
              have ht := sizes_take hi
              have hp := sizes_part zz (i + 1)
              clear hik
              have i1 : (0 : Int) ≤ (i : Int) := by omega
              have i2 : (i : Int) < (zz.length : Int) := by omega
              generalize zz[i] = q at ht m1 m2 m3 x0 x1 x2 x3 x4
              generalize sizes (zz.take i) = si at ht ⊢
              have hq9 : q.size ≤ 1000000000 := by rw [hsum] at hp; simp only [List.length_append] at hp; omega
              have hsi : si ≤ 2000 := by rw [hsum] at hp; simp only [List.length_append] at hp; omega
              go_wp2_with (go_at_call 20; refine (size_any q ia ic _ m1 m2 (m3.below ((Below.refl _ _).alloc (Nat.le_refl _) _)) hq9).mono ?_; rintro e wN ⟨rfl, hb1⟩)
              have hik := HI.out
              have hbN := ((Below.refl W7.heap.size W7).trans hbr).trans (((Below.refl wr.heap.size wr).alloc (Nat.le_refl _) _).trans (hb1.mono (by simp)) |>.mono hbr.size)
              go_roundg (gk - 1)
              case measure => omega
              case rel => exact ⟨i + 1, by omega, by go_num, by rw [ht]; go_num, hbN⟩
            · obtain rfl : i = zz.length := by omega
              rw [List.take_length, hsum, List.length_append]
              have b8 := b7.below hbr b7.lt
              obtain ⟨c0, c1, -⟩ := b8.c2'
              have x8 := (k7.below hbr).mark
              have y8 := (l7.below hbr).mark
              have z8 := (z7.below hbr).mark
              have hsl := sizes_len zz
              have hxy : x.length + y.length = zz.length := by rw [← HZZ.out, List.length_append]
              have HXY := hide hxy
              have hx2 : x.length ≤ 2000 := by omega
              have hy3 : y.length ≤ 2000 := by omega
              clear hxy k7 l7 z7 b7 hsl
              have ownE : (wr.alloc (.cells #[] tT)).ownsRow wr.heap.size tT 5 (.slice (some ⟨wr.heap.size, 0, none⟩) 0 0) 0 [] :=
                ⟨rfl, .inr ⟨wr.heap.size, 0, _, rfl, Nat.le_refl _, heap_alloc_new wr _, Nat.le_refl _, Nat.zero_le _, rfl, rfl⟩⟩
              obtain ⟨V1, hV1⟩ : ∃ V1, wr.alloc (.cells #[] tT) = V1 := ⟨_, rfl⟩
              rw [hV1] at ownE
              have hbE : Below wr.heap.size wr V1 := by rw [← hV1]; exact (Below.refl _ _).alloc (Nat.le_refl _) _
              obtain ⟨j0, hj0, hy0, hy1, hy2⟩ := info_parts infoTr
              obtain ⟨nx, n1, n2, n3⟩ := (x8.far hbE (fun _ h => h)).row g2
              go_wp2_with (at_builtin; refine wpList_unguard (by rfl) ?_; refine wpList_append_src rfl (.tmp 67) (.tmp 68) 37 rfl wr.heap.size tT j0 (.agg #[.bool false, .int .i64 0, .string ⟨#[]⟩, .int .i64 0, .slice none 0 0]) 5 64 Tryd.underlying37 hj0 hy0 hy1 hy2 rfl (by decide) _ _ _ rfl ownE ka x.length cap nx rfl n1 n3 n2.one ?f3 ?f4 ?f5 ?_)
              case f3 => unfold maxLen; omega
              case f4 => omega
              case f5 => exact hbE.size
              intro v3 wC ownC hgC
              have hbC : Below wr.heap.size wr wC := hbE.trans (below_grown_row hgC ownE hbE.size)
              have hbC' := hbC
              obtain ⟨aC, cC, rfl⟩ := own_form ownC
              obtain ⟨ny, o1, o2, o3⟩ := (y8.far hbC (fun _ h => h)).row p2
              have n2C := n2.far (below_grown_row hgC ownE hbE.size) (fun _ h => h)
              clear n3 hV1 ownE hgC hbE n2 n1
              go_wp2_with (at_builtin; refine wpList_unguard (by rfl) ?_; refine wpList_append_src rfl (.tmp 69) (.tmp 70) 37 rfl wr.heap.size tT j0 (.agg #[.bool false, .int .i64 0, .string ⟨#[]⟩, .int .i64 0, .slice none 0 0]) 5 64 Tryd.underlying37 hj0 hy0 hy1 hy2 rfl (by decide) _ _ _ rfl ownC kb y.length capb ny rfl o1 o3 o2.one ?h3 ?h4 ?h5 ?_)
              case h3 => unfold maxLen; omega
              case h4 => omega
              case h5 => exact hbC.size
              intro v4 wD ownD hgD
              have hbCD := below_grown_row hgD ownC hbC.size
              have hbD : Below wr.heap.size wr wD := hbC.trans hbCD
              obtain ⟨aD, cD, rfl⟩ := own_form ownD
              have hrl : RepL wD (fun b => b < wr.heap.size) (x ++ y) (nx ++ ny) := (n2C.far hbCD (fun _ h => h)).app (o2.far hbCD (fun _ h => h))
              have hxy := HXY.out
              have hvD : RepV wD (fun _ => True) zz (.slice aD (x.length + y.length) cD) := by
                rw [hxy] at ownD
                rw [HZZ.out] at hrl
                rw [hxy]
                exact repV_of ownD (RepL.keep (ok' := fun _ => True) (fun _ _ _ => ⟨trivial, rfl⟩) (Nat.le_refl _) _ _ hrl) (fun _ _ => trivial)
              have hzD := (z8.far hbD (fun _ h => h)).any
              rw [hxy] at hvD ⊢
              obtain ⟨ad, cd, ed, r1, r2, r3⟩ := hvD
              injection ed with ed1 _ ed3
              subst ed1 ed3
              have hsm := same_rows true zz zz kz aD capz cD wD (sameL_refl true zz) q1 q2 hzD r3
              have hee : ((ts.length : Int) + (us.length : Int) == (ts.length : Int) + (us.length : Int)) = true := by simp
              clear ownD hgD ownC o1 o2 o3 n2C hrl hbC hbC' hbCD x8 y8 z8 hzD r3 hxy
              go_wp2_with (go_at_call 16; refine hsm.mono ?_; rintro e wE ⟨rfl, hbE⟩)
              go_ret
              exact ⟨rfl, hbV.trans ((hbV7.trans ((hbr.trans ((hbD.trans (hbE.mono hbD.size)).mono hbr.size)).mono hbV7.size)).mono hbV.size)⟩
        · have e3 : (c' != 0) = true := by simp [hcz']
          go_wp2_with fail
          go_ret
          exact ⟨rfl, hbV⟩
      · have e3 : (c != 0) = true := by simp [hcz]
        go_wp2_with fail
        go_ret
        exact ⟨rfl, hbV⟩
    · have e1 : decide ((1000 : Int) < (ts.length : Int)) = false := decide_eq_false (by omega)
      have e2 : decide ((1000 : Int) < (us.length : Int)) = true := decide_eq_true (by omega)
      go_wp2_with fail
      go_ret
      exact ⟨rfl, hb1⟩
  · have e1 : decide ((1000 : Int) < (ts.length : Int)) = true := decide_eq_true (by omega)
    go_wp2_with fail
    go_ret
    exact ⟨rfl, hb1⟩
end Go.Proofs.YtajlibegalbbmaaDoor
