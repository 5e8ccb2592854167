/- tree.read: by its contract. -/
import Derived.Test.YtajlibegalbbmaaDoorTMem
import Derived.Test.YtajlibegalbbmaaDoorJoins
namespace Go.Proofs.YtajlibegalbbmaaDoor
open Go.RowKit

section
variable {deep : Int} {b : List Fr} {f : Fr} {tk : Tk} {r : List Tk}
theorem run_deep (hk : tk.1 = 1) (hd : deep ≤ (b.length : Int)) : runT deep b f (tk :: r) = .error (4, tk.2.2) := by rw [runT, stepT, if_pos hk, if_pos hd]
theorem run_open (hk : tk.1 = 1) (hd : ¬ deep ≤ (b.length : Int)) : runT deep b f (tk :: r) = runT deep (b ++ [f]) ⟨true, tk, []⟩ r := by rw [runT, stepT, if_pos hk, if_neg hd]
theorem run_paren (hk : tk.1 = 2) : runT deep [] f (tk :: r) = .error (11, tk.2.2) := by rw [runT, stepT, if_neg (by omega), if_pos hk]; rfl
theorem run_close {g : Fr} (hk : tk.1 = 2) : runT deep (b ++ [g]) f (tk :: r) = runT deep b (g.add f.tree) r := by rw [runT, stepT, if_neg (by omega), if_pos hk]; simp
theorem run_leaf (h1 : ¬ tk.1 = 1) (h2 : ¬ tk.1 = 2) : runT deep b f (tk :: r) = runT deep b (f.add (.mk false tk [])) r := by rw [runT, stepT, if_neg h1, if_neg h2]
theorem run_end : runT deep [] f [] = .ok f.kids := by simp [runT]
theorem run_left (h : b ≠ []) : runT deep b f [] = .error (11, f.tk.2.2) := by rw [runT, if_neg (by simpa using h)]
end
/-- What panics with a fault. -/
def failT (c a : Int) : Ending := .panicked [{ v := .iface 31 (.agg #[.int .i64 c, .int .i64 a]), recovered := false }]
/-- What read leaves. -/
def TreadPost (w : World) (r : Except (Int × Int) (List Tr)) (e : Ending) (w' : World) : Prop :=
  Below w.heap.size w w' ∧ match r with
  | .error x => e = failT x.1 x.2
  | .ok ts => ∃ v, e = .returned v ∧ RepV w' (fun b => w.heap.size ≤ b) ts v

/-- What is known between two tokens. -/
structure RdSt (w : World) (v : Value) (b : List FV) (f : FV) (wr : World) : Prop where
  stk : Stk wr w.heap.size v (b ++ [f])
  bel : Below w.heap.size w wr
theorem RdSt.below {w : World} {v : Value} {b : List FV} {f : FV} {wr w' : World} (s : RdSt w v b f wr) (hb : Below wr.heap.size wr w') : RdSt w v b f w' :=
  ⟨s.stk.grown ⟨hb.os, hb.tape, hb.output, hb.size, fun i hi _ => hb.block i hi⟩, s.bel.trans (hb.mono s.bel.size)⟩
theorem stk_one (w : World) : Stk (w.alloc (.cells #[.bool false, .int .i64 0, .string ⟨#[]⟩, .int .i64 0, .slice none 0 0] tT)) w.heap.size (.slice (some ⟨w.heap.size, 0, none⟩) 1 1) ([] ++ [((⟨false, (0, [], 0), []⟩, .slice none 0 0) : FV)]) := by
  refine ⟨?_, ?_, by simp [lives, List.filterMap_cons, Value.ownBlock]⟩
  · exact ⟨rfl, .inr ⟨w.heap.size, 1, _, rfl, Nat.le_refl _, heap_alloc_new w _, Nat.le_refl _, by unfold maxLen; omega, rfl, rfl⟩⟩
  · intro x hx
    simp at hx
    subst hx
    exact ⟨[], World.ownsRow_nil _ _ _ _, by simp [RepL]⟩
theorem own_form {w : World} {base : Nat} {e : TypeId} {size : Nat} {v : Value} {n : Nat} {xs : List Value} (h : w.ownsRow base e size v n xs) : ∃ a c, v = .slice a n c := by
  rcases h.2 with ⟨hv, h0⟩ | ⟨g, c, cur, hv, _⟩
  · exact ⟨none, 0, by rw [hv, h0]⟩
  · exact ⟨_, _, hv⟩
theorem own_some {w : World} {base : Nat} {e : TypeId} {size : Nat} {v : Value} {n : Nat} {xs : List Value} (h : w.ownsRow base e size v n xs) (hn : 0 < n) : ∃ g c, v = .slice (some ⟨g, 0, none⟩) n c := by
  rcases h.2 with ⟨_, h0⟩ | ⟨g, c, cur, hv, _⟩
  · omega
  · exact ⟨g, c, hv⟩
theorem infoTr : (Tryd.prog.info? tT).map (fun i => (i.zero, i.size, i.bytes)) = some (some (.agg #[.bool false, .int .i64 0, .string ⟨#[]⟩, .int .i64 0, .slice none 0 0]), 5, 64) := by kernel_rfl

set_option maxRecDepth 100000 in
set_option maxHeartbeats 3200000 in
theorem tread_any (ta : Option Addr) (cap : Nat) (toks : List Tok) (deep : Int) (w : World) (ht : TokIn w w.heap.size ta toks) (hl : toks.length ≤ 100000) :
    Calls Tryd.prog 30 #[.slice ta toks.length cap, .int .i64 deep] w (TreadPost w (runT deep [] ⟨false, (0, [], 0), []⟩ toks)) := by
  generalize hP : TreadPost w (runT deep [] ⟨false, (0, [], 0), []⟩ toks) = Post
  have HP := hide hP
  clear hP
  obtain ⟨W, hW⟩ : ∃ W, w.alloc (.cells #[.bool false, .int .i64 0, .string ⟨#[]⟩, .int .i64 0, .slice none 0 0] tT) = W := ⟨_, rfl⟩
  have s0 : RdSt w (.slice (some ⟨w.heap.size, 0, none⟩) 1 1) [] (⟨false, (0, [], 0), []⟩, .slice none 0 0) W := by
    subst hW
    exact ⟨stk_one w, (Below.refl _ _).alloc (Nat.le_refl _) _⟩
  have HW := hide hW
  clear hW
  go_enter Tryd.func30, Tryd.ntmps30
  go_upto_region 2 with (fail)
  rw [HW.out]
  clear HW
  go_wp2_with fail
  go_loopg [5, 14] toks.length (fun k v5 v14 wr => ∃ (j g vc : Nat) (b : List FV) (f : FV), j + k = toks.length ∧ v14 = .int .i64 (j : Int) ∧ v5 = .slice (some ⟨g, 0, none⟩) (b.length + 1) vc ∧ RdSt w (.slice (some ⟨g, 0, none⟩) (b.length + 1) vc) b f wr ∧ b.length ≤ j ∧ (∀ x ∈ b ++ [f], x.1.kids.length ≤ j) ∧ Hid (runT deep [] ⟨false, (0, [], 0), []⟩ toks = runT deep (b.map (·.1)) f.1 (toks.drop j)))
  case atStart => exact ⟨0, w.heap.size, 1, [], _, by omega, rfl, rfl, s0, Nat.le_refl _, by simp, hide rfl⟩
  case round =>
    obtain ⟨j, g, vc, b, f, hjk, rfl, rfl, s, hbj, hkl, HR⟩ := hrel
    clear s0
    rcases Nat.lt_or_ge j toks.length with hj | hj
    · obtain ⟨b1, o1, rfl, hb1, hc⟩ := ht (by omega)
      obtain ⟨t0, t1, t2⟩ := hc j hj
      clear hc
      replace t0 := (s.bel.cell (World.block_lt_of_cell? w _ t0)).trans t0
      replace t1 := (s.bel.cell (World.block_lt_of_cell? w _ t1)).trans t1
      replace t2 := (s.bel.cell (World.block_lt_of_cell? w _ t2)).trans t2
      have HD := hide (List.drop_eq_getElem_cons hj)
      generalize toks[j] = tk at t0 t1 t2 HD
      obtain ⟨k, tx, at_⟩ := tk
      simp only at t0 t1 t2
      have HJ := hide hjk
      clear hjk
      obtain ⟨W2, hW2⟩ : ∃ W2, wr.alloc (.cells #[.int .i64 k, .string ⟨tx.toArray⟩, .int .i64 at_] 23) = W2 := ⟨_, rfl⟩
      have bt : Blk W2 wr.heap.size 23 #[.int .i64 k, .string ⟨tx.toArray⟩, .int .i64 at_] := by rw [← hW2]; exact Blk.new _ _ _
      have hb2 : Below wr.heap.size wr W2 := by rw [← hW2]; exact (Below.refl _ _).alloc (Nat.le_refl _) _
      replace s := s.below hb2
      have HW := hide hW2
      clear hW2
      go_upto_region 5 with (fail)
      rw [HW.out]
      clear HW t0 t1 t2 hb2
      generalize wr.heap.size = G at bt ⊢
      obtain ⟨t0, t1, t2, -⟩ := bt.c3
      have hbl : b.length ≤ 100000 := by omega
      by_cases hk1 : k = 1
      · subst hk1
        by_cases hdp : deep ≤ (b.length : Int)
        · have e1 := decide_eq_true hdp
          have HE : Hid (runT deep [] ⟨false, (0, [], 0), []⟩ toks = .error (4, at_)) := hide (by rw [HR.out, HD.out, run_deep rfl (by simpa using hdp)])
          clear hdp
          go_wp2_with fail
          refine ⟨rfl, (show Post (failT 4 at_) W2 from ?_)⟩
          rw [← HP.out, HE.out]
          exact ⟨s.bel, rfl⟩
        · have e1 := decide_eq_false hdp
          have HE : Hid (runT deep [] ⟨false, (0, [], 0), []⟩ toks = runT deep ((b ++ [f]).map (·.1)) ⟨true, (1, tx, at_), []⟩ (toks.drop (j + 1))) := hide (by rw [HR.out, HD.out, run_open rfl (by simpa using hdp), List.map_append]; rfl)
          clear hdp
          obtain ⟨i0, hi0, hz0, hz1, hz2⟩ := info_parts infoTr
          have hown := s.stk.own
          have hsz := s.bel.size
          have hbe : w.heap.size ≤ W2.heap.size := hsz
          have hll : (b ++ [f]).length = b.length + 1 := by simp
          rw [hll] at hown
          go_wp2_with (at_builtin; refine wpList_append_own_at _ rfl (.tmp 45) (.tmp 48) 37 rfl w.heap.size tT i0 (.agg #[.bool false, .int .i64 0, .string ⟨#[]⟩, .int .i64 0, .slice none 0 0]) 5 64 Tryd.underlying37 hi0 hz0 hz1 hz2 rfl (by decide) _ (b.length + 1) (stCells (b ++ [f])) rfl (hown.alloc _) ⟨W2.heap.size, 0, none⟩ 1 1 (trCells true (1, tx, at_) (.slice none 0 0)) rfl rfl ?c1 ?c2 ?c3 ?c4 ?c5 ?_)
          case c1 => exact new_cells _ _ _ _ (by simp)
          case c2 => exact oneCell_tr _ _ _ _ _
          case c3 => unfold maxLen; omega
          case c4 => omega
          case c5 => simp; omega
          intro v' w2 hown' hgrow _ hblk
          have hb3 : Below W2.heap.size W2 (W2.alloc (.cells (trCells true (1, tx, at_) (.slice none 0 0)).toArray tT)) := (Below.refl _ _).alloc (Nat.le_refl _) _
          have s3 := s.below hb3
          have s4 := s3.stk.push (tk := (1, tx, at_)) (by rw [hll]; exact hown') hgrow (by rw [World.size_alloc]; exact hblk)
          have hb4 : Below w.heap.size w w2 := s3.bel.trans (below_grown_row hgrow s3.stk.own s3.bel.size)
          obtain ⟨g', vc', rfl⟩ := own_some hown' (by omega)
          clear hown' hgrow hblk hown s s3 hb3
          go_wp2_with fail
          have hjk := HJ.out
          go_roundg (gk - 1)
          case measure => omega
          case rel =>
            refine ⟨j + 1, g', vc', b ++ [f], _, by omega, by go_num, by rw [hll], ⟨by rw [hll]; exact s4, hb4⟩, by rw [hll]; omega, ?_, HE⟩
            intro x hx
            rw [List.mem_append, List.mem_singleton] at hx
            rcases hx with hx | rfl
            · exact Nat.le_succ_of_le (hkl x hx)
            · exact Nat.zero_le _
      · have e1 : (k == 1) = false := beq_eq_false_iff_ne.2 hk1
        by_cases hk2 : k = 2
        · subst hk2
          rcases List.eq_nil_or_concat b with rfl | ⟨b', x, rfl⟩
          · have HE : Hid (runT deep [] ⟨false, (0, [], 0), []⟩ toks = .error (11, at_)) := hide (by rw [HR.out, HD.out, List.map_nil, run_paren rfl])
            go_wp2_with fail
            refine ⟨rfl, (show Post (failT 11 at_) W2 from ?_)⟩
            rw [← HP.out, HE.out]
            exact ⟨s.bel, rfl⟩
          · rw [List.concat_eq_append] at *
            obtain ⟨fr, kv⟩ := x
            obtain ⟨ft, tv⟩ := f
            have hbn : (b' ++ [((fr, kv) : FV)]).length = b'.length + 1 := by simp
            rw [hbn] at s hbj hbl ⊢
            have HE : Hid (runT deep [] ⟨false, (0, [], 0), []⟩ toks = runT deep (b'.map (·.1)) (fr.add ft.tree) (toks.drop (j + 1))) := hide (by rw [HR.out, HD.out, List.map_append]; exact run_close rfl)
            have n0 : ((b'.length : Int) + 1 == 0) = false := beq_eq_false_iff_ne.2 (by omega)
            go_upto_region 15 with (fail)
            go_cut [59] from 58 to 59 (fun v59 wc => ∃ fl, v59 = .bool fl ∧ Below W2.heap.size W2 wc)
            case first =>
              clear HE HR HD HJ HP
              refine wp_region_held_drew (S := fun _ => True) (by kernel_rfl) trivial (fun hS => ?_)
              refine wpAnyH_ready (rs := [0]) (by kernel_rfl) (by simp) ?_
              refine AllReadyH.cons (o := { dst := some 58, op := Op.alloc 4, type := 0, pos := "tree.go:40", after := #[], guard := none }) rfl (fun K hK => ?_) AllReadyH.nil
              go_simp
              refine hK.out _ _ trivial (fun _ => ?_)
              clear hK K
              try simp only [Act.put, List.setIfInBounds_toArray, List.set_cons_zero, List.set_cons_succ]
              have bf : Blk (W2.alloc (.cells #[.bool false] 4)).drew W2.heap.size 4 #[.bool false] := Blk.new _ _ _
              have bf0 := bf.cell 0
              have bf1 := bf.frozen 0
              refine wpAnyH_ready (rs := [1, 2]) (by kernel_rfl) (by simp) ?_
              refine AllReadyH.cons (o := { dst := none, op := Op.store 4 (Operand.tmp 58) (Operand.const (Value.bool true)), type := 0, pos := "tree.go:40", after := #[{ on := 0, ground := Ground.data }], guard := none }) rfl (fun K hK => ?_) (AllReadyH.cons (o := { dst := none, op := Op.store 4 (Operand.tmp 58) (Operand.const (Value.bool false)), type := 0, pos := "tree.go:40", after := #[{ on := 0, ground := Ground.data }, { on := 1, ground := Ground.textOnly Departure.appendInPlace }, { on := 1, ground := Ground.gcOnly Departure.appendInPlace }], guard := none }) rfl (fun K hK => ?_) AllReadyH.nil)
              · go_simp
                refine hK.out _ _ trivial (fun _ => ?_)
                clear hK K
                try simp only [Act.put, List.setIfInBounds_toArray, List.set_cons_zero, List.set_cons_succ]
                refine wpAnyH_ready (rs := [2]) (by kernel_rfl) (by simp) ?_
                refine AllReadyH.cons (o := { dst := none, op := Op.store 4 (Operand.tmp 58) (Operand.const (Value.bool false)), type := 0, pos := "tree.go:40", after := #[{ on := 0, ground := Ground.data }, { on := 1, ground := Ground.textOnly Departure.appendInPlace }, { on := 1, ground := Ground.gcOnly Departure.appendInPlace }], guard := none }) rfl (fun K hK => ?_) AllReadyH.nil
                go_simp
                refine hK.out _ _ trivial (fun _ => ?_)
                clear hK K
                try simp only [Act.put, List.setIfInBounds_toArray, List.set_cons_zero, List.set_cons_succ]
                refine wpAnyH_ready (rs := [3]) (by kernel_rfl) (by simp) ?_
                refine AllReadyH.cons (o := { dst := some 59, op := Op.load 4 (Operand.tmp 58), type := 4, pos := "tree.go:40", after := #[{ on := 0, ground := Ground.data }, { on := 0, ground := Ground.phase }, { on := 1, ground := Ground.phase }, { on := 2, ground := Ground.phase }], guard := none }) rfl (fun K hK => ?_) AllReadyH.nil
                go_simp
                refine hK.out _ _ trivial (fun _ => ?_)
                clear hK K
                try simp only [Act.put, List.setIfInBounds_toArray, List.set_cons_zero, List.set_cons_succ]
                refine wpAnyH_done (by kernel_rfl) ?_ _
                go_wp2_with fail
                go_meet
                exact ⟨false, rfl, ((Below.refl _ _).alloc (Nat.le_refl _) _).drew⟩
              · go_simp
                refine hK.out _ _ trivial (fun _ => ?_)
                clear hK K
                try simp only [Act.put, List.setIfInBounds_toArray, List.set_cons_zero, List.set_cons_succ]
                refine wpAnyH_ready (rs := [1]) (by kernel_rfl) (by simp) ?_
                refine AllReadyH.cons (o := { dst := none, op := Op.store 4 (Operand.tmp 58) (Operand.const (Value.bool true)), type := 0, pos := "tree.go:40", after := #[{ on := 0, ground := Ground.data }], guard := none }) rfl (fun K hK => ?_) AllReadyH.nil
                go_simp
                refine hK.out _ _ trivial (fun _ => ?_)
                clear hK K
                try simp only [Act.put, List.setIfInBounds_toArray, List.set_cons_zero, List.set_cons_succ]
                refine wpAnyH_ready (rs := [3]) (by kernel_rfl) (by simp) ?_
                refine AllReadyH.cons (o := { dst := some 59, op := Op.load 4 (Operand.tmp 58), type := 4, pos := "tree.go:40", after := #[{ on := 0, ground := Ground.data }, { on := 0, ground := Ground.phase }, { on := 1, ground := Ground.phase }, { on := 2, ground := Ground.phase }], guard := none }) rfl (fun K hK => ?_) AllReadyH.nil
                go_simp
                refine hK.out _ _ trivial (fun _ => ?_)
                clear hK K
                try simp only [Act.put, List.setIfInBounds_toArray, List.set_cons_zero, List.set_cons_succ]
                refine wpAnyH_done (by kernel_rfl) ?_ _
                go_wp2_with fail
                go_meet
                exact ⟨true, rfl, ((Below.refl _ _).alloc (Nat.le_refl _) _).drew⟩
            case rest =>
              obtain ⟨fl, rfl, hbw⟩ := hcut
              rename_i wc
              replace s := s.below hbw
              clear t0 t1 t2 bt hbw
              have spop : Stk wc w.heap.size (.slice (some ⟨g, 0, none⟩) (b'.length + 1) vc) (b' ++ [((fr, kv) : FV)]) := by have h := Stk.pop (l := b' ++ [((fr, kv) : FV)]) (x := (ft, tv)) (g := g) (cap := vc) (by rw [hbn]; exact s.stk); rw [hbn] at h; exact h
              have stop := Stk.top (l := b' ++ [((fr, kv) : FV)]) s.stk
              obtain ⟨ks, hko, hkr⟩ := spop.kid (fr, kv) (by simp)
              simp only at hko hkr
              obtain ⟨ka, kc, rfl⟩ := own_form hko
              obtain ⟨ia, ic, rfl, ih1, ih2, ih3⟩ := id stop
              have k4 := spop.cell (pre := b') (post := []) rfl (j := 4) (u := .slice ka fr.kids.length kc) rfl
              have hcl : ∀ j u, (trCells ft.l ft.tk (.slice ia ft.kids.length ic))[j]? = some u → wc.cell? ⟨g, (b'.length + 1) * 5 + j, none⟩ = some u := fun j u hj => by have h := s.stk.cell (pre := b' ++ [((fr, .slice ka fr.kids.length kc) : FV)]) (post := []) (x := (ft, .slice ia ft.kids.length ic)) rfl (j := j) (u := u) hj; rw [hbn] at h; exact h
              have t0 := hcl 0 _ rfl
              have t1 := hcl 1 _ rfl
              have t2 := hcl 2 _ rfl
              have t3 := hcl 3 _ rfl
              have t4 := hcl 4 _ rfl
              simp only [Nat.add_zero] at t0
              clear hcl ih1 ih2 ih3
              have i1 : (0 : Int) ≤ (b'.length : Int) := by omega
              have i2 : (b'.length : Int) < (b'.length : Int) + 1 + 1 := by omega
              have wn : IntKind.i64.wrap (b'.length : Int) = (b'.length : Int) := IntWalk.i64_in _ (by omega)
              have i5 : (0 : Int) ≤ (b'.length : Int) + 1 := by omega
              have i6 : (b'.length : Int) + 1 < (b'.length : Int) + 1 + 1 := by omega
              have hkn := hkl (fr, .slice ka fr.kids.length kc) (by simp)
              simp only at hkn
              have i3 : (0 : Int) ≤ (fr.kids.length : Int) := by omega
              have i4 : (fr.kids.length : Int) < (fr.kids.length : Int) + 1 := by omega
              obtain ⟨i0, hi0, hz0, hz1, hz2⟩ := info_parts infoTr
              have hne : (Value.slice (some ⟨g, 0, none⟩) (b'.length + 1) vc).ownBlock ≠ (Value.slice ka fr.kids.length kc).ownBlock := fun e => nodup_split (v := .slice (some ⟨g, 0, none⟩) (b'.length + 1) vc) (pre := b') (post := []) (x := (fr, .slice ka fr.kids.length kc)) spop.nod (g := g) e.symm (lives_top rfl)
              have hne' : (Value.slice (some ⟨g, 0, none⟩) (b'.length + 1 + 1) vc).ownBlock ≠ (Value.slice ka fr.kids.length kc).ownBlock := hne
              have hown : wc.ownsRow w.heap.size tT 5 (.slice (some ⟨g, 0, none⟩) (b'.length + 1 + 1) vc) (b'.length + 1 + 1) (stCells ((b' ++ [((fr, .slice ka fr.kids.length kc) : FV)]) ++ [((ft, .slice ia ft.kids.length ic) : FV)])) := by have h := s.stk.own; rw [List.length_append, List.length_singleton, hbn] at h; exact h
              have hvc : (b'.length : Int) + 1 ≤ (vc : Int) := by have := (own_room hown).1; omega
              cases fl
              · go_upto_region 18 with (fail)
                refine wp_region_till (S := fun w' => w'.cell? ⟨g, b'.length * 5 + 4, none⟩ = some (.slice ka fr.kids.length kc) ∧ w'.cell? ⟨g, (b'.length + 1) * 5, none⟩ = some (.bool ft.l) ∧ w'.cell? ⟨g, (b'.length + 1) * 5 + 1, none⟩ = some (.int .i64 ft.tk.1) ∧ w'.cell? ⟨g, (b'.length + 1) * 5 + 2, none⟩ = some (.string ⟨ft.tk.2.1.toArray⟩) ∧ w'.cell? ⟨g, (b'.length + 1) * 5 + 3, none⟩ = some (.int .i64 ft.tk.2.2) ∧ w'.cell? ⟨g, (b'.length + 1) * 5 + 4, none⟩ = some (.slice ia ft.kids.length ic)) (fun i => decide (i < 15)) (by kernel_rfl) (⟨k4, t0, t1, t2, t3, t4⟩) (fun hS => ?_)
                refine Till_take (i := 0) (oi := { dst := some 79, op := Op.move (Operand.tmp 5), type := 37, pos := "tree.go:40", after := #[], guard := none }) (v := ?_) rfl (by kernel_rfl) (by kernel_rfl) (by kernel_rfl) (fun _ _ _ h => h) rfl (by kernel_rfl) (Or.inl ⟨by rfl, ?_⟩) hS ?_
                rotate_left
                · (intro w' hSw; (try dsimp only at hSw); go_simp; try with_reducible rfl)
                try simp only [Act.put, List.setIfInBounds_toArray, List.set_cons_zero, List.set_cons_succ]
                refine Till_take (i := 1) (oi := { dst := some 80, op := Op.move (Operand.tmp 8), type := 3, pos := "tree.go:40", after := #[], guard := none }) (v := ?_) rfl (by kernel_rfl) (by kernel_rfl) (by kernel_rfl) (fun _ _ _ h => h) rfl (by kernel_rfl) (Or.inl ⟨by rfl, ?_⟩) hS ?_
                rotate_left
                · (intro w' hSw; (try dsimp only at hSw); go_simp; try with_reducible rfl)
                try simp only [Act.put, List.setIfInBounds_toArray, List.set_cons_zero, List.set_cons_succ]
                refine Till_take (i := 2) (oi := { dst := some 81, op := Op.binOp BinOp.sub 3 (Operand.tmp 80) (Operand.const (Value.int IntKind.i64 1)) 3, type := 3, pos := "tree.go:40", after := #[{ on := 1, ground := Ground.data }], guard := none }) (v := ?_) rfl (by kernel_rfl) (by kernel_rfl) (by kernel_rfl) (fun _ _ _ h => h) rfl (by kernel_rfl) (Or.inl ⟨by rfl, ?_⟩) hS ?_
                rotate_left
                · (intro w' hSw; (try dsimp only at hSw); go_simp; try with_reducible rfl)
                try simp only [Act.put, List.setIfInBounds_toArray, List.set_cons_zero, List.set_cons_succ]
                refine Till_take (i := 3) (oi := { dst := some 82, op := Op.move (Operand.tmp 5), type := 37, pos := "tree.go:40", after := #[], guard := none }) (v := ?_) rfl (by kernel_rfl) (by kernel_rfl) (by kernel_rfl) (fun _ _ _ h => h) rfl (by kernel_rfl) (Or.inl ⟨by rfl, ?_⟩) hS ?_
                rotate_left
                · (intro w' hSw; (try dsimp only at hSw); go_simp; try with_reducible rfl)
                try simp only [Act.put, List.setIfInBounds_toArray, List.set_cons_zero, List.set_cons_succ]
                refine Till_take (i := 4) (oi := { dst := some 83, op := Op.move (Operand.tmp 8), type := 3, pos := "tree.go:40", after := #[], guard := none }) (v := ?_) rfl (by kernel_rfl) (by kernel_rfl) (by kernel_rfl) (fun _ _ _ h => h) rfl (by kernel_rfl) (Or.inl ⟨by rfl, ?_⟩) hS ?_
                rotate_left
                · (intro w' hSw; (try dsimp only at hSw); go_simp; try with_reducible rfl)
                try simp only [Act.put, List.setIfInBounds_toArray, List.set_cons_zero, List.set_cons_succ]
                refine Till_take (i := 5) (oi := { dst := some 84, op := Op.binOp BinOp.sub 3 (Operand.tmp 83) (Operand.const (Value.int IntKind.i64 1)) 3, type := 3, pos := "tree.go:40", after := #[{ on := 4, ground := Ground.data }], guard := none }) (v := ?_) rfl (by kernel_rfl) (by kernel_rfl) (by kernel_rfl) (fun _ _ _ h => h) rfl (by kernel_rfl) (Or.inl ⟨by rfl, ?_⟩) hS ?_
                rotate_left
                · (intro w' hSw; (try dsimp only at hSw); go_simp; try with_reducible rfl)
                try simp only [Act.put, List.setIfInBounds_toArray, List.set_cons_zero, List.set_cons_succ]
                refine Till_take (i := 6) (oi := { dst := some 85, op := Op.indexAddr 37 (Operand.tmp 82) (Operand.tmp 84), type := 0, pos := "tree.go:40", after := #[{ on := 3, ground := Ground.data }, { on := 5, ground := Ground.data }], guard := none }) (v := ?_) rfl (by kernel_rfl) (by kernel_rfl) (by kernel_rfl) (fun _ _ _ h => h) rfl (by kernel_rfl) (Or.inl ⟨by rfl, ?_⟩) hS ?_
                rotate_left
                · (intro w' hSw; (try dsimp only at hSw); go_simp; try with_reducible rfl)
                try simp only [Act.put, List.setIfInBounds_toArray, List.set_cons_zero, List.set_cons_succ]
                refine Till_take (i := 7) (oi := { dst := some 86, op := Op.fieldAddr 45 (Operand.tmp 85) 2, type := 0, pos := "tree.go:40", after := #[{ on := 6, ground := Ground.data }], guard := none }) (v := ?_) rfl (by kernel_rfl) (by kernel_rfl) (by kernel_rfl) (fun _ _ _ h => h) rfl (by kernel_rfl) (Or.inl ⟨by rfl, ?_⟩) hS ?_
                rotate_left
                · (intro w' hSw; (try dsimp only at hSw); go_simp; try with_reducible rfl)
                try simp only [Act.put, List.setIfInBounds_toArray, List.set_cons_zero, List.set_cons_succ]
                refine Till_take (i := 8) (oi := { dst := some 87, op := Op.load 37 (Operand.tmp 86), type := 37, pos := "tree.go:40", after := #[{ on := 7, ground := Ground.data }], guard := none }) (v := ?_) rfl (by kernel_rfl) (by kernel_rfl) (by kernel_rfl) (fun _ _ _ h => h) rfl (by kernel_rfl) (Or.inl ⟨by rfl, ?_⟩) hS ?_
                rotate_left
                · (intro w' hSw; (try dsimp only at hSw); go_simp; try with_reducible rfl)
                try simp only [Act.put, List.setIfInBounds_toArray, List.set_cons_zero, List.set_cons_succ]
                refine Till_take (i := 9) (oi := { dst := some 88, op := Op.move (Operand.tmp 5), type := 37, pos := "tree.go:40", after := #[], guard := none }) (v := ?_) rfl (by kernel_rfl) (by kernel_rfl) (by kernel_rfl) (fun _ _ _ h => h) rfl (by kernel_rfl) (Or.inl ⟨by rfl, ?_⟩) hS ?_
                rotate_left
                · (intro w' hSw; (try dsimp only at hSw); go_simp; try with_reducible rfl)
                try simp only [Act.put, List.setIfInBounds_toArray, List.set_cons_zero, List.set_cons_succ]
                refine Till_take (i := 10) (oi := { dst := some 89, op := Op.move (Operand.tmp 8), type := 3, pos := "tree.go:40", after := #[], guard := none }) (v := ?_) rfl (by kernel_rfl) (by kernel_rfl) (by kernel_rfl) (fun _ _ _ h => h) rfl (by kernel_rfl) (Or.inl ⟨by rfl, ?_⟩) hS ?_
                rotate_left
                · (intro w' hSw; (try dsimp only at hSw); go_simp; try with_reducible rfl)
                try simp only [Act.put, List.setIfInBounds_toArray, List.set_cons_zero, List.set_cons_succ]
                refine Till_take (i := 11) (oi := { dst := some 90, op := Op.indexAddr 37 (Operand.tmp 88) (Operand.tmp 89), type := 0, pos := "tree.go:40", after := #[{ on := 9, ground := Ground.data }, { on := 10, ground := Ground.data }], guard := none }) (v := ?_) rfl (by kernel_rfl) (by kernel_rfl) (by kernel_rfl) (fun _ _ _ h => h) rfl (by kernel_rfl) (Or.inl ⟨by rfl, ?_⟩) hS ?_
                rotate_left
                · (intro w' hSw; (try dsimp only at hSw); go_simp; try with_reducible rfl)
                try simp only [Act.put, List.setIfInBounds_toArray, List.set_cons_zero, List.set_cons_succ]
                refine Till_take (i := 12) (oi := { dst := some 91, op := Op.load 45 (Operand.tmp 90), type := 45, pos := "tree.go:40", after := #[{ on := 11, ground := Ground.data }], guard := none }) (v := ?_) rfl (by kernel_rfl) (by kernel_rfl) (by kernel_rfl) (fun _ _ _ h => h) rfl (by kernel_rfl) (Or.inl ⟨by rfl, ?_⟩) hS ?_
                rotate_left
                · (intro w' hSw; (try dsimp only at hSw); go_simp; try with_reducible rfl)
                try simp only [Act.put, List.setIfInBounds_toArray, List.set_cons_zero, List.set_cons_succ]
                refine Till_ready (rs := [13]) (by kernel_rfl) (by kernel_rfl) (by simp) ?_
                refine AllReadyT.cons (o := { dst := some 92, op := Op.buildSlice 37 1 #[(0, Operand.tmp 91)], type := 37, pos := "tree.go:40", after := #[{ on := 12, ground := Ground.data }], guard := none }) rfl (fun K hK => ?_) AllReadyT.nil
                go_simp
                have hbz : ∀ (c : World) (o : Obj), Below c.heap.size c (c.alloc o) := fun c o => (Below.refl _ _).alloc (Nat.le_refl _) _
                refine hK.out _ _ ⟨(hbz _ _).cell (World.block_lt_of_cell? _ _ hS.1) |>.trans hS.1, (hbz _ _).cell (World.block_lt_of_cell? _ _ hS.2.1) |>.trans hS.2.1, (hbz _ _).cell (World.block_lt_of_cell? _ _ hS.2.2.1) |>.trans hS.2.2.1, (hbz _ _).cell (World.block_lt_of_cell? _ _ hS.2.2.2.1) |>.trans hS.2.2.2.1, (hbz _ _).cell (World.block_lt_of_cell? _ _ hS.2.2.2.2.1) |>.trans hS.2.2.2.2.1, (hbz _ _).cell (World.block_lt_of_cell? _ _ hS.2.2.2.2.2) |>.trans hS.2.2.2.2.2⟩ (fun hS => ?_)
                clear hK K hbz
                try simp only [Act.put, List.setIfInBounds_toArray, List.set_cons_zero, List.set_cons_succ]
                refine Till_ready (rs := [14]) (by kernel_rfl) (by kernel_rfl) (by simp) ?_
                refine AllReadyT.cons (o := { dst := some 93, op := Op.call { callee := Callee.builtin Builtin.append, args := #[Operand.tmp 87, Operand.tmp 92], argTypes := #[37, 37] }, type := 37, pos := "tree.go:40", after := #[{ on := 8, ground := Ground.data }, { on := 13, ground := Ground.data }], guard := none }) rfl (fun K hK => ?_) AllReadyT.nil
                rw [if_pos (by rfl)]
                refine wp_append_at (.tmp 87) (.tmp 92) 37 rfl w.heap.size tT i0 (.agg #[.bool false, .int .i64 0, .string ⟨#[]⟩, .int .i64 0, .slice none 0 0]) 5 64 Tryd.underlying37 hi0 hz0 hz1 hz2 rfl (by decide) (.slice ka fr.kids.length kc) fr.kids.length ks (by rfl) (hko.alloc _) ⟨wc.heap.size, 0, none⟩ 1 1 (trCells ft.l ft.tk (.slice ia ft.kids.length ic)) (by rfl) rfl (new_cells wc tT (trCells ft.l ft.tk (.slice ia ft.kids.length ic)) _ rfl) (oneCell_tr _ _ _ _ _) (by unfold maxLen; omega) (by omega) (Nat.le_trans s.bel.size (by simp)) ?_
                intro v' w3 hown3 hg3 hb3
                obtain ⟨g3, c3, rfl⟩ := own_some hown3 (by omega)
                have hst3 := (hown.alloc (.cells (trCells ft.l ft.tk (.slice ia ft.kids.length ic)).toArray tT)).drew.kept hg3 (.inr hne')
                have d4 : w3.cell? ⟨g, b'.length * 5 + 4, none⟩ = some (.slice ka fr.kids.length kc) := stk_cells (pre := b') (post := [((ft, .slice ia ft.kids.length ic) : FV)]) (by simpa using hst3) rfl rfl
                have d5 := own_frozen hst3 rfl (b'.length * 5 + 4)
                have hcl : ∀ j u, (trCells ft.l ft.tk (.slice ia ft.kids.length ic))[j]? = some u → w3.cell? ⟨g, (b'.length + 1) * 5 + j, none⟩ = some u := fun j u hj => by have h := stk_cells (pre := b' ++ [((fr, .slice ka fr.kids.length kc) : FV)]) (post := []) (x := (ft, .slice ia ft.kids.length ic)) (by simpa using hst3) rfl (j := j) (u := u) hj; rw [hbn] at h; exact h
                refine hK.out _ _ ⟨d4, hcl 0 _ rfl, hcl 1 _ rfl, hcl 2 _ rfl, hcl 3 _ rfl, hcl 4 _ rfl⟩ (fun hS => ?_)
                clear hK K hcl
                try simp only [Act.put, List.setIfInBounds_toArray, List.set_cons_zero, List.set_cons_succ]
                refine Till_turn (by kernel_rfl) ?_
                refine wpAnyH_take (i := 15) (oi := { dst := some 94, op := Op.indexAddr 37 (Operand.tmp 79) (Operand.tmp 81), type := 0, pos := "tree.go:40", after := #[{ on := 0, ground := Ground.data }, { on := 2, ground := Ground.data }, { on := 0, ground := Ground.phase }, { on := 1, ground := Ground.phase }, { on := 2, ground := Ground.phase }, { on := 3, ground := Ground.phase }, { on := 4, ground := Ground.phase }, { on := 5, ground := Ground.phase }, { on := 6, ground := Ground.phase }, { on := 7, ground := Ground.phase }, { on := 8, ground := Ground.phase }, { on := 9, ground := Ground.phase }, { on := 10, ground := Ground.phase }, { on := 11, ground := Ground.phase }, { on := 12, ground := Ground.phase }, { on := 13, ground := Ground.phase }, { on := 14, ground := Ground.phase }], guard := none }) (v := ?_) rfl (by kernel_rfl) (by kernel_rfl) (by kernel_rfl) (fun _ _ _ h => h) (Or.inl ⟨by rfl, ?_⟩) trivial ?_
                rotate_left
                · (intro w' _; go_simp; try with_reducible rfl)
                try simp only [Act.put, List.setIfInBounds_toArray, List.set_cons_zero, List.set_cons_succ]
                refine wpAnyH_take (i := 16) (oi := { dst := some 95, op := Op.fieldAddr 45 (Operand.tmp 94) 2, type := 0, pos := "tree.go:40", after := #[{ on := 15, ground := Ground.data }, { on := 0, ground := Ground.phase }, { on := 1, ground := Ground.phase }, { on := 2, ground := Ground.phase }, { on := 3, ground := Ground.phase }, { on := 4, ground := Ground.phase }, { on := 5, ground := Ground.phase }, { on := 6, ground := Ground.phase }, { on := 7, ground := Ground.phase }, { on := 8, ground := Ground.phase }, { on := 9, ground := Ground.phase }, { on := 10, ground := Ground.phase }, { on := 11, ground := Ground.phase }, { on := 12, ground := Ground.phase }, { on := 13, ground := Ground.phase }, { on := 14, ground := Ground.phase }], guard := none }) (v := ?_) rfl (by kernel_rfl) (by kernel_rfl) (by kernel_rfl) (fun _ _ _ h => h) (Or.inl ⟨by rfl, ?_⟩) trivial ?_
                rotate_left
                · (intro w' _; go_simp; try with_reducible rfl)
                try simp only [Act.put, List.setIfInBounds_toArray, List.set_cons_zero, List.set_cons_succ]
                refine wpAnyH_ready (rs := [17]) (by kernel_rfl) (by simp) ?_
                refine AllReadyH.cons (o := { dst := none, op := Op.store 37 (Operand.tmp 95) (Operand.tmp 93), type := 0, pos := "tree.go:40", after := #[{ on := 16, ground := Ground.data }, { on := 14, ground := Ground.data }, { on := 14, ground := Ground.chain }, { on := 0, ground := Ground.phase }, { on := 1, ground := Ground.phase }, { on := 2, ground := Ground.phase }, { on := 3, ground := Ground.phase }, { on := 4, ground := Ground.phase }, { on := 5, ground := Ground.phase }, { on := 6, ground := Ground.phase }, { on := 7, ground := Ground.phase }, { on := 8, ground := Ground.phase }, { on := 9, ground := Ground.phase }, { on := 10, ground := Ground.phase }, { on := 11, ground := Ground.phase }, { on := 12, ground := Ground.phase }, { on := 13, ground := Ground.phase }, { on := 14, ground := Ground.phase }], guard := none }) rfl (fun K hK => ?_) AllReadyH.nil
                go_simp
                refine hK.out _ _ trivial (fun _ => ?_)
                clear hK K
                try simp only [Act.put, List.setIfInBounds_toArray, List.set_cons_zero, List.set_cons_succ]
                have hbc : Below wc.heap.size wc (wc.alloc (.cells (trCells ft.l ft.tk (.slice ia ft.kids.length ic)).toArray tT)).drew := ((Below.refl _ _).alloc (Nat.le_refl _) _).drew
                have fin := put_at (pre := b') (post := []) (t := ft.tree) (cs := (trCells ft.l ft.tk (.slice ia ft.kids.length ic))) (spop.grown ⟨hbc.os, hbc.tape, hbc.output, hbc.size, fun i hi _ => hbc.block i hi⟩) (Nat.le_trans s.bel.size hbc.size) (hko.alloc _).drew (RepL.keep (fun _ hb h => ⟨h, hbc.block _ hb⟩) hbc.size _ _ hkr) hown3 hg3 hb3 (stop.keep (ok' := fun b => w.heap.size ≤ b ∧ b ∉ lives (.slice (some ⟨g, 0, none⟩) (b'.length + 1) vc) (b' ++ [((fr, .slice ka fr.kids.length kc) : FV)])) (fun b hb h => ⟨h, hbc.block b hb⟩) hbc.size).tree rfl
                obtain ⟨W3, hW3⟩ : ∃ W3, w3.setCell ⟨g, b'.length * 5 + 4, none⟩ (.slice (some ⟨g3, 0, none⟩) (fr.kids.length + 1) c3) = W3 := ⟨_, rfl⟩
                rw [hW3] at fin
                have hs3 : RdSt w (.slice (some ⟨g, 0, none⟩) (b'.length + 1) vc) b' (fr.add ft.tree, .slice (some ⟨g3, 0, none⟩) (fr.kids.length + 1) c3) W3 := ⟨fin.1, (s.bel.trans (hbc.mono s.bel.size)).trans fin.2⟩
                have HW3 := hide hW3
                clear fin hW3
                refine wpAnyH_done (by kernel_rfl) ?_ _
                rw [HW3.out]
                clear HW3 hst3 d4 d5 hown3 hg3 hb3 hbc hS hko hkr k4 t0 t1 t2 t3 t4 s spop stop hown
                go_wp2_with fail
                have hjk := HJ.out
                go_roundg (gk - 1)
                case measure => omega
                case rel =>
                  refine ⟨j + 1, g, vc, b', _, by omega, by go_num, rfl, hs3, by omega, ?_, HE⟩
                  intro x hx
                  rw [List.mem_append, List.mem_singleton] at hx
                  rcases hx with hx | rfl
                  · exact Nat.le_succ_of_le (hkl x (by simp [hx]))
                  · simp only [Fr.add, List.length_append, List.length_singleton]; omega
              · go_upto_region 16 with (fail)
                refine wp_region_till (S := fun w' => w'.cell? ⟨g, b'.length * 5 + 4, none⟩ = some (.slice ka fr.kids.length kc) ∧ w'.cell? ⟨g, (b'.length + 1) * 5, none⟩ = some (.bool ft.l) ∧ w'.cell? ⟨g, (b'.length + 1) * 5 + 1, none⟩ = some (.int .i64 ft.tk.1) ∧ w'.cell? ⟨g, (b'.length + 1) * 5 + 2, none⟩ = some (.string ⟨ft.tk.2.1.toArray⟩) ∧ w'.cell? ⟨g, (b'.length + 1) * 5 + 3, none⟩ = some (.int .i64 ft.tk.2.2) ∧ w'.cell? ⟨g, (b'.length + 1) * 5 + 4, none⟩ = some (.slice ia ft.kids.length ic)) (fun i => decide (i < 15)) (by kernel_rfl) (⟨k4, t0, t1, t2, t3, t4⟩) (fun hS => ?_)
                refine Till_take (i := 0) (oi := { dst := some 60, op := Op.move (Operand.tmp 5), type := 37, pos := "tree.go:40", after := #[], guard := none }) (v := ?_) rfl (by kernel_rfl) (by kernel_rfl) (by kernel_rfl) (fun _ _ _ h => h) rfl (by kernel_rfl) (Or.inl ⟨by rfl, ?_⟩) hS ?_
                rotate_left
                · (intro w' hSw; (try dsimp only at hSw); go_simp; try with_reducible rfl)
                try simp only [Act.put, List.setIfInBounds_toArray, List.set_cons_zero, List.set_cons_succ]
                refine Till_take (i := 1) (oi := { dst := some 61, op := Op.move (Operand.tmp 8), type := 3, pos := "tree.go:40", after := #[], guard := none }) (v := ?_) rfl (by kernel_rfl) (by kernel_rfl) (by kernel_rfl) (fun _ _ _ h => h) rfl (by kernel_rfl) (Or.inl ⟨by rfl, ?_⟩) hS ?_
                rotate_left
                · (intro w' hSw; (try dsimp only at hSw); go_simp; try with_reducible rfl)
                try simp only [Act.put, List.setIfInBounds_toArray, List.set_cons_zero, List.set_cons_succ]
                refine Till_take (i := 2) (oi := { dst := some 62, op := Op.binOp BinOp.sub 3 (Operand.tmp 61) (Operand.const (Value.int IntKind.i64 1)) 3, type := 3, pos := "tree.go:40", after := #[{ on := 1, ground := Ground.data }], guard := none }) (v := ?_) rfl (by kernel_rfl) (by kernel_rfl) (by kernel_rfl) (fun _ _ _ h => h) rfl (by kernel_rfl) (Or.inl ⟨by rfl, ?_⟩) hS ?_
                rotate_left
                · (intro w' hSw; (try dsimp only at hSw); go_simp; try with_reducible rfl)
                try simp only [Act.put, List.setIfInBounds_toArray, List.set_cons_zero, List.set_cons_succ]
                refine Till_take (i := 3) (oi := { dst := some 63, op := Op.move (Operand.tmp 5), type := 37, pos := "tree.go:40", after := #[], guard := none }) (v := ?_) rfl (by kernel_rfl) (by kernel_rfl) (by kernel_rfl) (fun _ _ _ h => h) rfl (by kernel_rfl) (Or.inl ⟨by rfl, ?_⟩) hS ?_
                rotate_left
                · (intro w' hSw; (try dsimp only at hSw); go_simp; try with_reducible rfl)
                try simp only [Act.put, List.setIfInBounds_toArray, List.set_cons_zero, List.set_cons_succ]
                refine Till_take (i := 4) (oi := { dst := some 64, op := Op.move (Operand.tmp 8), type := 3, pos := "tree.go:40", after := #[], guard := none }) (v := ?_) rfl (by kernel_rfl) (by kernel_rfl) (by kernel_rfl) (fun _ _ _ h => h) rfl (by kernel_rfl) (Or.inl ⟨by rfl, ?_⟩) hS ?_
                rotate_left
                · (intro w' hSw; (try dsimp only at hSw); go_simp; try with_reducible rfl)
                try simp only [Act.put, List.setIfInBounds_toArray, List.set_cons_zero, List.set_cons_succ]
                refine Till_take (i := 5) (oi := { dst := some 65, op := Op.binOp BinOp.sub 3 (Operand.tmp 64) (Operand.const (Value.int IntKind.i64 1)) 3, type := 3, pos := "tree.go:40", after := #[{ on := 4, ground := Ground.data }], guard := none }) (v := ?_) rfl (by kernel_rfl) (by kernel_rfl) (by kernel_rfl) (fun _ _ _ h => h) rfl (by kernel_rfl) (Or.inl ⟨by rfl, ?_⟩) hS ?_
                rotate_left
                · (intro w' hSw; (try dsimp only at hSw); go_simp; try with_reducible rfl)
                try simp only [Act.put, List.setIfInBounds_toArray, List.set_cons_zero, List.set_cons_succ]
                refine Till_take (i := 6) (oi := { dst := some 66, op := Op.indexAddr 37 (Operand.tmp 63) (Operand.tmp 65), type := 0, pos := "tree.go:40", after := #[{ on := 3, ground := Ground.data }, { on := 5, ground := Ground.data }], guard := none }) (v := ?_) rfl (by kernel_rfl) (by kernel_rfl) (by kernel_rfl) (fun _ _ _ h => h) rfl (by kernel_rfl) (Or.inl ⟨by rfl, ?_⟩) hS ?_
                rotate_left
                · (intro w' hSw; (try dsimp only at hSw); go_simp; try with_reducible rfl)
                try simp only [Act.put, List.setIfInBounds_toArray, List.set_cons_zero, List.set_cons_succ]
                refine Till_take (i := 7) (oi := { dst := some 67, op := Op.fieldAddr 45 (Operand.tmp 66) 2, type := 0, pos := "tree.go:40", after := #[{ on := 6, ground := Ground.data }], guard := none }) (v := ?_) rfl (by kernel_rfl) (by kernel_rfl) (by kernel_rfl) (fun _ _ _ h => h) rfl (by kernel_rfl) (Or.inl ⟨by rfl, ?_⟩) hS ?_
                rotate_left
                · (intro w' hSw; (try dsimp only at hSw); go_simp; try with_reducible rfl)
                try simp only [Act.put, List.setIfInBounds_toArray, List.set_cons_zero, List.set_cons_succ]
                refine Till_take (i := 8) (oi := { dst := some 68, op := Op.load 37 (Operand.tmp 67), type := 37, pos := "tree.go:40", after := #[{ on := 7, ground := Ground.data }], guard := none }) (v := ?_) rfl (by kernel_rfl) (by kernel_rfl) (by kernel_rfl) (fun _ _ _ h => h) rfl (by kernel_rfl) (Or.inl ⟨by rfl, ?_⟩) hS ?_
                rotate_left
                · (intro w' hSw; (try dsimp only at hSw); go_simp; try with_reducible rfl)
                try simp only [Act.put, List.setIfInBounds_toArray, List.set_cons_zero, List.set_cons_succ]
                refine Till_take (i := 9) (oi := { dst := some 69, op := Op.move (Operand.tmp 5), type := 37, pos := "tree.go:40", after := #[], guard := none }) (v := ?_) rfl (by kernel_rfl) (by kernel_rfl) (by kernel_rfl) (fun _ _ _ h => h) rfl (by kernel_rfl) (Or.inl ⟨by rfl, ?_⟩) hS ?_
                rotate_left
                · (intro w' hSw; (try dsimp only at hSw); go_simp; try with_reducible rfl)
                try simp only [Act.put, List.setIfInBounds_toArray, List.set_cons_zero, List.set_cons_succ]
                refine Till_take (i := 10) (oi := { dst := some 70, op := Op.move (Operand.tmp 8), type := 3, pos := "tree.go:40", after := #[], guard := none }) (v := ?_) rfl (by kernel_rfl) (by kernel_rfl) (by kernel_rfl) (fun _ _ _ h => h) rfl (by kernel_rfl) (Or.inl ⟨by rfl, ?_⟩) hS ?_
                rotate_left
                · (intro w' hSw; (try dsimp only at hSw); go_simp; try with_reducible rfl)
                try simp only [Act.put, List.setIfInBounds_toArray, List.set_cons_zero, List.set_cons_succ]
                refine Till_take (i := 11) (oi := { dst := some 71, op := Op.indexAddr 37 (Operand.tmp 69) (Operand.tmp 70), type := 0, pos := "tree.go:40", after := #[{ on := 9, ground := Ground.data }, { on := 10, ground := Ground.data }], guard := none }) (v := ?_) rfl (by kernel_rfl) (by kernel_rfl) (by kernel_rfl) (fun _ _ _ h => h) rfl (by kernel_rfl) (Or.inl ⟨by rfl, ?_⟩) hS ?_
                rotate_left
                · (intro w' hSw; (try dsimp only at hSw); go_simp; try with_reducible rfl)
                try simp only [Act.put, List.setIfInBounds_toArray, List.set_cons_zero, List.set_cons_succ]
                refine Till_take (i := 12) (oi := { dst := some 72, op := Op.load 45 (Operand.tmp 71), type := 45, pos := "tree.go:40", after := #[{ on := 11, ground := Ground.data }], guard := none }) (v := ?_) rfl (by kernel_rfl) (by kernel_rfl) (by kernel_rfl) (fun _ _ _ h => h) rfl (by kernel_rfl) (Or.inl ⟨by rfl, ?_⟩) hS ?_
                rotate_left
                · (intro w' hSw; (try dsimp only at hSw); go_simp; try with_reducible rfl)
                try simp only [Act.put, List.setIfInBounds_toArray, List.set_cons_zero, List.set_cons_succ]
                refine Till_take (i := 13) (oi := { dst := some 73, op := Op.call { callee := Callee.builtin Builtin.len, args := #[Operand.tmp 68], argTypes := #[37] }, type := 3, pos := "tree.go:40", after := #[{ on := 8, ground := Ground.data }], guard := none }) (v := ?_) rfl (by kernel_rfl) (by kernel_rfl) (by kernel_rfl) (fun _ _ _ h => h) rfl (by kernel_rfl) (Or.inl ⟨by rfl, ?_⟩) hS ?_
                rotate_left
                · (intro w' hSw; (try dsimp only at hSw); go_simp; try with_reducible rfl)
                try simp only [Act.put, List.setIfInBounds_toArray, List.set_cons_zero, List.set_cons_succ]
                refine Till_ready (rs := [14]) (by kernel_rfl) (by kernel_rfl) (by simp) ?_
                refine AllReadyT.cons (o := { dst := some 74, op := Op.buildSlice 37 1 #[(0, Operand.const (Value.agg #[Value.bool false, Value.int IntKind.i64 0, Value.string { data := #[] }, Value.int IntKind.i64 0, Value.slice none 0 0]))], type := 37, pos := "tree.go:40", after := #[], guard := none }) rfl (fun K hK => ?_) AllReadyT.nil
                go_simp
                have hbz : ∀ (c : World) (o : Obj), Below c.heap.size c (c.alloc o) := fun c o => (Below.refl _ _).alloc (Nat.le_refl _) _
                refine hK.out _ _ ⟨(hbz _ _).cell (World.block_lt_of_cell? _ _ hS.1) |>.trans hS.1, (hbz _ _).cell (World.block_lt_of_cell? _ _ hS.2.1) |>.trans hS.2.1, (hbz _ _).cell (World.block_lt_of_cell? _ _ hS.2.2.1) |>.trans hS.2.2.1, (hbz _ _).cell (World.block_lt_of_cell? _ _ hS.2.2.2.1) |>.trans hS.2.2.2.1, (hbz _ _).cell (World.block_lt_of_cell? _ _ hS.2.2.2.2.1) |>.trans hS.2.2.2.2.1, (hbz _ _).cell (World.block_lt_of_cell? _ _ hS.2.2.2.2.2) |>.trans hS.2.2.2.2.2⟩ (fun hS => ?_)
                clear hK K hbz
                try simp only [Act.put, List.setIfInBounds_toArray, List.set_cons_zero, List.set_cons_succ]
                refine Till_turn (by kernel_rfl) ?_
                refine wpAnyH_ready (rs := [15]) (by kernel_rfl) (by simp) ?_
                refine AllReadyH.cons (o := { dst := some 75, op := Op.call { callee := Callee.builtin Builtin.append, args := #[Operand.tmp 68, Operand.tmp 74], argTypes := #[37, 37] }, type := 37, pos := "tree.go:40", after := #[{ on := 8, ground := Ground.data }, { on := 14, ground := Ground.data }, { on := 0, ground := Ground.phase }, { on := 1, ground := Ground.phase }, { on := 2, ground := Ground.phase }, { on := 3, ground := Ground.phase }, { on := 4, ground := Ground.phase }, { on := 5, ground := Ground.phase }, { on := 6, ground := Ground.phase }, { on := 7, ground := Ground.phase }, { on := 8, ground := Ground.phase }, { on := 9, ground := Ground.phase }, { on := 10, ground := Ground.phase }, { on := 11, ground := Ground.phase }, { on := 12, ground := Ground.phase }, { on := 13, ground := Ground.phase }, { on := 14, ground := Ground.phase }], guard := none }) rfl (fun K hK => ?_) AllReadyH.nil
                rw [if_pos (by rfl)]
                refine wp_append_at (.tmp 68) (.tmp 74) 37 rfl w.heap.size tT i0 (.agg #[.bool false, .int .i64 0, .string ⟨#[]⟩, .int .i64 0, .slice none 0 0]) 5 64 Tryd.underlying37 hi0 hz0 hz1 hz2 rfl (by decide) (.slice ka fr.kids.length kc) fr.kids.length ks (by rfl) (hko.alloc _) ⟨wc.heap.size, 0, none⟩ 1 1 (trCells false (0, [], 0) (.slice none 0 0)) (by rfl) rfl (new_cells wc tT (trCells false (0, [], 0) (.slice none 0 0)) _ rfl) (oneCell_tr _ _ _ _ _) (by unfold maxLen; omega) (by omega) (Nat.le_trans s.bel.size (by simp)) ?_
                intro v' w3 hown3 hg3 hb3
                obtain ⟨g3, c3, rfl⟩ := own_some hown3 (by omega)
                have hst3 := (hown.alloc (.cells (trCells false (0, [], 0) (.slice none 0 0)).toArray tT)).drew.kept hg3 (.inr hne')
                have d4 : w3.cell? ⟨g, b'.length * 5 + 4, none⟩ = some (.slice ka fr.kids.length kc) := stk_cells (pre := b') (post := [((ft, .slice ia ft.kids.length ic) : FV)]) (by simpa using hst3) rfl rfl
                have d5 := own_frozen hst3 rfl (b'.length * 5 + 4)
                refine hK.out _ _ trivial (fun _ => ?_)
                clear hK K
                try simp only [Act.put, List.setIfInBounds_toArray, List.set_cons_zero, List.set_cons_succ]
                refine wpAnyH_take (i := 16) (oi := { dst := some 76, op := Op.indexAddr 37 (Operand.tmp 60) (Operand.tmp 62), type := 0, pos := "tree.go:40", after := #[{ on := 0, ground := Ground.data }, { on := 2, ground := Ground.data }, { on := 0, ground := Ground.phase }, { on := 1, ground := Ground.phase }, { on := 2, ground := Ground.phase }, { on := 3, ground := Ground.phase }, { on := 4, ground := Ground.phase }, { on := 5, ground := Ground.phase }, { on := 6, ground := Ground.phase }, { on := 7, ground := Ground.phase }, { on := 8, ground := Ground.phase }, { on := 9, ground := Ground.phase }, { on := 10, ground := Ground.phase }, { on := 11, ground := Ground.phase }, { on := 12, ground := Ground.phase }, { on := 13, ground := Ground.phase }, { on := 14, ground := Ground.phase }, { on := 15, ground := Ground.phase }], guard := none }) (v := ?_) rfl (by kernel_rfl) (by kernel_rfl) (by kernel_rfl) (fun _ _ _ h => h) (Or.inl ⟨by rfl, ?_⟩) trivial ?_
                rotate_left
                · (intro w' _; go_simp; try with_reducible rfl)
                try simp only [Act.put, List.setIfInBounds_toArray, List.set_cons_zero, List.set_cons_succ]
                refine wpAnyH_take (i := 17) (oi := { dst := some 77, op := Op.fieldAddr 45 (Operand.tmp 76) 2, type := 0, pos := "tree.go:40", after := #[{ on := 16, ground := Ground.data }, { on := 0, ground := Ground.phase }, { on := 1, ground := Ground.phase }, { on := 2, ground := Ground.phase }, { on := 3, ground := Ground.phase }, { on := 4, ground := Ground.phase }, { on := 5, ground := Ground.phase }, { on := 6, ground := Ground.phase }, { on := 7, ground := Ground.phase }, { on := 8, ground := Ground.phase }, { on := 9, ground := Ground.phase }, { on := 10, ground := Ground.phase }, { on := 11, ground := Ground.phase }, { on := 12, ground := Ground.phase }, { on := 13, ground := Ground.phase }, { on := 14, ground := Ground.phase }, { on := 15, ground := Ground.phase }], guard := none }) (v := ?_) rfl (by kernel_rfl) (by kernel_rfl) (by kernel_rfl) (fun _ _ _ h => h) (Or.inl ⟨by rfl, ?_⟩) trivial ?_
                rotate_left
                · (intro w' _; go_simp; try with_reducible rfl)
                try simp only [Act.put, List.setIfInBounds_toArray, List.set_cons_zero, List.set_cons_succ]
                refine wpAnyH_ready (rs := [18]) (by kernel_rfl) (by simp) ?_
                refine AllReadyH.cons (o := { dst := none, op := Op.store 37 (Operand.tmp 77) (Operand.tmp 75), type := 0, pos := "tree.go:40", after := #[{ on := 17, ground := Ground.data }, { on := 15, ground := Ground.data }, { on := 15, ground := Ground.chain }, { on := 0, ground := Ground.phase }, { on := 1, ground := Ground.phase }, { on := 2, ground := Ground.phase }, { on := 3, ground := Ground.phase }, { on := 4, ground := Ground.phase }, { on := 5, ground := Ground.phase }, { on := 6, ground := Ground.phase }, { on := 7, ground := Ground.phase }, { on := 8, ground := Ground.phase }, { on := 9, ground := Ground.phase }, { on := 10, ground := Ground.phase }, { on := 11, ground := Ground.phase }, { on := 12, ground := Ground.phase }, { on := 13, ground := Ground.phase }, { on := 14, ground := Ground.phase }, { on := 15, ground := Ground.phase }], guard := none }) rfl (fun K hK => ?_) AllReadyH.nil
                go_simp
                refine hK.out _ _ trivial (fun _ => ?_)
                clear hK K
                try simp only [Act.put, List.setIfInBounds_toArray, List.set_cons_zero, List.set_cons_succ]
                refine wpAnyH_done (by kernel_rfl) ?_ _
                have hbc : Below wc.heap.size wc (wc.alloc (.cells (trCells false (0, [], 0) (.slice none 0 0)).toArray tT)).drew := ((Below.refl _ _).alloc (Nat.le_refl _) _).drew
                have hgg : g3 ≠ g := by
                  rcases hb3 with e | e
                  · rintro rfl; exact hne (by rw [← e]; rfl)
                  · have h2 := (spop.own.lt g rfl).2; have e2 : g3 = wc.heap.size + 1 := (Option.some.inj e).trans (World.size_alloc _ _); omega
                have f0 := own_frozen hown3 rfl (fr.kids.length * 5)
                have f1 := own_frozen hown3 rfl (fr.kids.length * 5 + 1)
                have f2 := own_frozen hown3 rfl (fr.kids.length * 5 + 2)
                have f3 := own_frozen hown3 rfl (fr.kids.length * 5 + 3)
                have f4 := own_frozen hown3 rfl (fr.kids.length * 5 + 4)
                have hkl5 : ks.length = fr.kids.length * 5 := hko.1
                have z : ∀ i u, (trCells false (0, [], 0) (.slice none 0 0))[i]? = some u → w3.cell? ⟨g3, fr.kids.length * 5 + i, none⟩ = some u := fun i u hi => new_cell hown3 hkl5 rfl hi
                have z0 := z 0 _ rfl
                have z1 := z 1 _ rfl
                have z2 := z 2 _ rfl
                have z3 := z 3 _ rfl
                have z4 := z 4 _ rfl
                simp only [Nat.add_zero] at z0
                clear z
                have fin := put5_at (pre := b') (post := []) (t := ft.tree) (a1 := .bool ft.l) (a2 := .int .i64 ft.tk.1) (a3 := .string ⟨ft.tk.2.1.toArray⟩) (a4 := .int .i64 ft.tk.2.2) (a5 := .slice ia ft.kids.length ic) (spop.grown ⟨hbc.os, hbc.tape, hbc.output, hbc.size, fun i hi _ => hbc.block i hi⟩) (Nat.le_trans s.bel.size hbc.size) (hko.alloc _).drew (RepL.keep (fun _ hb h => ⟨h, hbc.block _ hb⟩) hbc.size _ _ hkr) hown3 rfl hg3 hb3 rfl (stop.keep (ok' := fun b => w.heap.size ≤ b ∧ b ∉ lives (.slice (some ⟨g, 0, none⟩) (b'.length + 1) vc) (b' ++ [((fr, .slice ka fr.kids.length kc) : FV)])) (fun b hb h => ⟨h, hbc.block b hb⟩) hbc.size).tree rfl
                have hsw := set5_swap w3 hgg (o := fr.kids.length * 5) (o' := b'.length * 5 + 4) (.bool ft.l) (.int .i64 ft.tk.1) (.string ⟨ft.tk.2.1.toArray⟩) (.int .i64 ft.tk.2.2) (.slice ia ft.kids.length ic) (.slice (some ⟨g3, 0, none⟩) (fr.kids.length + 1) c3)
                obtain ⟨W3, hW3⟩ : ∃ W3, (set5 w3 g3 (fr.kids.length * 5) (.bool ft.l) (.int .i64 ft.tk.1) (.string ⟨ft.tk.2.1.toArray⟩) (.int .i64 ft.tk.2.2) (.slice ia ft.kids.length ic)).setCell ⟨g, b'.length * 5 + 4, none⟩ (.slice (some ⟨g3, 0, none⟩) (fr.kids.length + 1) c3) = W3 := ⟨_, rfl⟩
                rw [hW3] at fin hsw
                simp only [set5] at hsw
                have hs3 : RdSt w (.slice (some ⟨g, 0, none⟩) (b'.length + 1) vc) b' (fr.add ft.tree, .slice (some ⟨g3, 0, none⟩) (fr.kids.length + 1) c3) W3 := ⟨fin.1, (s.bel.trans (hbc.mono s.bel.size)).trans fin.2⟩
                replace hsw := hide hsw
                clear fin hW3
                go_upto_region 19 with (fail)
                rw [← hsw.out]
                clear hsw hst3 d4 d5 f0 f1 f2 f3 f4 z0 z1 z2 z3 z4 hown3 hg3 hb3 hbc hS hko hkr k4 t0 t1 t2 t3 t4 s spop stop hown
                go_wp2_with fail
                have hjk := HJ.out
                go_roundg (gk - 1)
                case measure => omega
                case rel =>
                  refine ⟨j + 1, g, vc, b', _, by omega, by go_num, rfl, hs3, by omega, ?_, HE⟩
                  intro x hx
                  rw [List.mem_append, List.mem_singleton] at hx
                  rcases hx with hx | rfl
                  · exact Nat.le_succ_of_le (hkl x (by simp [hx]))
                  · simp only [Fr.add, List.length_append, List.length_singleton]; omega
        · have e2 : (k == 2) = false := beq_eq_false_iff_ne.2 hk2
          have HE : Hid (runT deep [] ⟨false, (0, [], 0), []⟩ toks = runT deep (b.map (·.1)) (f.1.add (.mk false (k, tx, at_) [])) (toks.drop (j + 1))) := hide (by rw [HR.out, HD.out, run_leaf hk1 hk2])
          clear hk1 hk2
          obtain ⟨fr, kv⟩ := f
          obtain ⟨ks, hko, hkr⟩ := s.stk.kid (fr, kv) (by simp)
          simp only at hko hkr
          obtain ⟨ka, kc, rfl⟩ := own_form hko
          have k4 := s.stk.cell (pre := b) (post := []) rfl (j := 4) (u := .slice ka fr.kids.length kc) rfl
          have i1 : (0 : Int) ≤ (b.length : Int) := by omega
          have i2 : (b.length : Int) < (b.length : Int) + 1 := by omega
          have hkn := hkl (fr, .slice ka fr.kids.length kc) (by simp)
          simp only at hkn
          have i3 : (0 : Int) ≤ (fr.kids.length : Int) := by omega
          have i4 : (fr.kids.length : Int) < (fr.kids.length : Int) + 1 := by omega
          obtain ⟨i0, hi0, hz0, hz1, hz2⟩ := info_parts infoTr
          go_upto_region 7 with (fail)
          refine wp_region_till (S := fun w' => w'.cell? ⟨g, b.length * 5 + 4, none⟩ = some (.slice ka fr.kids.length kc) ∧ w'.cell? ⟨G, 0, none⟩ = some (.int .i64 k) ∧ w'.cell? ⟨G, 1, none⟩ = some (.string ⟨tx.toArray⟩) ∧ w'.cell? ⟨G, 2, none⟩ = some (.int .i64 at_) ∧ Below W2.heap.size W2 w') (fun i => decide (i < 9)) (by kernel_rfl) (⟨k4, t0, t1, t2, (Below.refl _ _).drew⟩) (fun hS => ?_)
          refine Till_take (i := 0) (oi := { dst := some 23, op := Op.move (Operand.tmp 5), type := 37, pos := "tree.go:43", after := #[], guard := none }) (v := ?_) rfl (by kernel_rfl) (by kernel_rfl) (by kernel_rfl) (fun _ _ _ h => h) rfl (by kernel_rfl) (Or.inl ⟨by rfl, ?_⟩) hS ?_
          rotate_left
          · (intro w' hSw; (try dsimp only at hSw); go_simp; try with_reducible rfl)
          try simp only [Act.put, List.setIfInBounds_toArray, List.set_cons_zero, List.set_cons_succ]
          refine Till_take (i := 1) (oi := { dst := some 24, op := Op.move (Operand.tmp 8), type := 3, pos := "tree.go:43", after := #[], guard := none }) (v := ?_) rfl (by kernel_rfl) (by kernel_rfl) (by kernel_rfl) (fun _ _ _ h => h) rfl (by kernel_rfl) (Or.inl ⟨by rfl, ?_⟩) hS ?_
          rotate_left
          · (intro w' hSw; (try dsimp only at hSw); go_simp; try with_reducible rfl)
          try simp only [Act.put, List.setIfInBounds_toArray, List.set_cons_zero, List.set_cons_succ]
          refine Till_take (i := 2) (oi := { dst := some 25, op := Op.indexAddr 37 (Operand.tmp 23) (Operand.tmp 24), type := 0, pos := "tree.go:43", after := #[{ on := 0, ground := Ground.data }, { on := 1, ground := Ground.data }], guard := none }) (v := ?_) rfl (by kernel_rfl) (by kernel_rfl) (by kernel_rfl) (fun _ _ _ h => h) rfl (by kernel_rfl) (Or.inl ⟨by rfl, ?_⟩) hS ?_
          rotate_left
          · (intro w' hSw; (try dsimp only at hSw); go_simp; try with_reducible rfl)
          try simp only [Act.put, List.setIfInBounds_toArray, List.set_cons_zero, List.set_cons_succ]
          refine Till_take (i := 3) (oi := { dst := some 26, op := Op.fieldAddr 45 (Operand.tmp 25) 2, type := 0, pos := "tree.go:43", after := #[{ on := 2, ground := Ground.data }], guard := none }) (v := ?_) rfl (by kernel_rfl) (by kernel_rfl) (by kernel_rfl) (fun _ _ _ h => h) rfl (by kernel_rfl) (Or.inl ⟨by rfl, ?_⟩) hS ?_
          rotate_left
          · (intro w' hSw; (try dsimp only at hSw); go_simp; try with_reducible rfl)
          try simp only [Act.put, List.setIfInBounds_toArray, List.set_cons_zero, List.set_cons_succ]
          refine Till_take (i := 4) (oi := { dst := some 27, op := Op.load 37 (Operand.tmp 26), type := 37, pos := "tree.go:43", after := #[{ on := 3, ground := Ground.data }], guard := none }) (v := ?_) rfl (by kernel_rfl) (by kernel_rfl) (by kernel_rfl) (fun _ _ _ h => h) rfl (by kernel_rfl) (Or.inl ⟨by rfl, ?_⟩) hS ?_
          rotate_left
          · (intro w' hSw; (try dsimp only at hSw); go_simp; try with_reducible rfl)
          try simp only [Act.put, List.setIfInBounds_toArray, List.set_cons_zero, List.set_cons_succ]
          refine Till_take (i := 5) (oi := { dst := some 28, op := Op.load 23 (Operand.tmp 7), type := 23, pos := "tree.go:43", after := #[], guard := none }) (v := ?_) rfl (by kernel_rfl) (by kernel_rfl) (by kernel_rfl) (fun _ _ _ h => h) rfl (by kernel_rfl) (Or.inl ⟨by rfl, ?_⟩) hS ?_
          rotate_left
          · (intro w' hSw; (try dsimp only at hSw); go_simp; try with_reducible rfl)
          try simp only [Act.put, List.setIfInBounds_toArray, List.set_cons_zero, List.set_cons_succ]
          refine Till_take (i := 6) (oi := { dst := some 29, op := Op.build 45 #[(1, Operand.tmp 28)], type := 45, pos := "tree.go:43", after := #[{ on := 5, ground := Ground.data }], guard := none }) (v := ?_) rfl (by kernel_rfl) (by kernel_rfl) (by kernel_rfl) (fun _ _ _ h => h) rfl (by kernel_rfl) (Or.inl ⟨by rfl, ?_⟩) hS ?_
          rotate_left
          · (intro w' hSw; (try dsimp only at hSw); go_simp; try with_reducible rfl)
          try simp only [Act.put, List.setIfInBounds_toArray, List.set_cons_zero, List.set_cons_succ]
          refine Till_take (i := 7) (oi := { dst := some 30, op := Op.call { callee := Callee.builtin Builtin.len, args := #[Operand.tmp 27], argTypes := #[37] }, type := 3, pos := "tree.go:43", after := #[{ on := 4, ground := Ground.data }], guard := none }) (v := ?_) rfl (by kernel_rfl) (by kernel_rfl) (by kernel_rfl) (fun _ _ _ h => h) rfl (by kernel_rfl) (Or.inl ⟨by rfl, ?_⟩) hS ?_
          rotate_left
          · (intro w' hSw; (try dsimp only at hSw); go_simp; try with_reducible rfl)
          try simp only [Act.put, List.setIfInBounds_toArray, List.set_cons_zero, List.set_cons_succ]
          refine Till_ready (rs := [8]) (by kernel_rfl) (by kernel_rfl) (by simp) ?_
          refine AllReadyT.cons (o := { dst := some 31, op := Op.buildSlice 37 1 #[(0, Operand.const (Value.agg #[Value.bool false, Value.int IntKind.i64 0, Value.string { data := #[] }, Value.int IntKind.i64 0, Value.slice none 0 0]))], type := 37, pos := "tree.go:43", after := #[], guard := none }) rfl (fun K hK => ?_) AllReadyT.nil
          go_simp
          have hbz : ∀ (c : World) (o : Obj), Below c.heap.size c (c.alloc o) := fun c o => (Below.refl _ _).alloc (Nat.le_refl _) _
          refine hK.out _ _ ⟨(hbz _ _).cell (World.block_lt_of_cell? _ _ hS.1) |>.trans hS.1, (hbz _ _).cell (World.block_lt_of_cell? _ _ hS.2.1) |>.trans hS.2.1, (hbz _ _).cell (World.block_lt_of_cell? _ _ hS.2.2.1) |>.trans hS.2.2.1, (hbz _ _).cell (World.block_lt_of_cell? _ _ hS.2.2.2.1) |>.trans hS.2.2.2.1, hS.2.2.2.2.trans ((hbz _ _).mono hS.2.2.2.2.size)⟩ (fun hS => ?_)
          clear hK K hbz
          try simp only [Act.put, List.setIfInBounds_toArray, List.set_cons_zero, List.set_cons_succ]
          refine Till_turn (by kernel_rfl) ?_
          refine wpAnyH_ready (rs := [9]) (by kernel_rfl) (by simp) ?_
          refine AllReadyH.cons (o := { dst := some 32, op := Op.call { callee := Callee.builtin Builtin.append, args := #[Operand.tmp 27, Operand.tmp 31], argTypes := #[37, 37] }, type := 37, pos := "tree.go:43", after := #[{ on := 4, ground := Ground.data }, { on := 8, ground := Ground.data }, { on := 0, ground := Ground.phase }, { on := 1, ground := Ground.phase }, { on := 2, ground := Ground.phase }, { on := 3, ground := Ground.phase }, { on := 4, ground := Ground.phase }, { on := 5, ground := Ground.phase }, { on := 6, ground := Ground.phase }, { on := 7, ground := Ground.phase }, { on := 8, ground := Ground.phase }], guard := none }) rfl (fun K hK => ?_) AllReadyH.nil
          rw [if_pos (by rfl)]
          refine wp_append_at (.tmp 27) (.tmp 31) 37 rfl w.heap.size tT i0 (.agg #[.bool false, .int .i64 0, .string ⟨#[]⟩, .int .i64 0, .slice none 0 0]) 5 64 Tryd.underlying37 hi0 hz0 hz1 hz2 rfl (by decide) (.slice ka fr.kids.length kc) fr.kids.length ks (by rfl) (hko.alloc _) ⟨W2.heap.size, 0, none⟩ 1 1 (trCells false (0, [], 0) (.slice none 0 0)) (by rfl) rfl (new_cells W2 tT (trCells false (0, [], 0) (.slice none 0 0)) _ rfl) (oneCell_tr _ _ _ _ _) (by unfold maxLen; omega) (by omega) (Nat.le_trans s.bel.size (by simp)) ?_
          intro v' w3 hown3 hg3 hb3
          obtain ⟨g3, c3, rfl⟩ := own_some hown3 (by omega)
          refine hK.out _ _ trivial (fun _ => ?_)
          clear hK K
          try simp only [Act.put, List.setIfInBounds_toArray, List.set_cons_zero, List.set_cons_succ]
          refine wpAnyH_take (i := 10) (oi := { dst := some 33, op := Op.indexAddr 37 (Operand.tmp 32) (Operand.tmp 30), type := 0, pos := "tree.go:43", after := #[{ on := 9, ground := Ground.data }, { on := 7, ground := Ground.data }, { on := 0, ground := Ground.phase }, { on := 1, ground := Ground.phase }, { on := 2, ground := Ground.phase }, { on := 3, ground := Ground.phase }, { on := 4, ground := Ground.phase }, { on := 5, ground := Ground.phase }, { on := 6, ground := Ground.phase }, { on := 7, ground := Ground.phase }, { on := 8, ground := Ground.phase }, { on := 9, ground := Ground.phase }, { on := 14, ground := Ground.gcOnly Departure.appendInPlace }], guard := none }) (v := ?_) rfl (by kernel_rfl) (by kernel_rfl) (by kernel_rfl) (fun _ _ _ h => h) (Or.inl ⟨by rfl, ?_⟩) trivial ?_
          rotate_left
          · (intro w' _; go_simp; try with_reducible rfl)
          try simp only [Act.put, List.setIfInBounds_toArray, List.set_cons_zero, List.set_cons_succ]
          refine wpAnyH_take (i := 12) (oi := { dst := some 34, op := Op.indexAddr 37 (Operand.tmp 23) (Operand.tmp 24), type := 0, pos := "tree.go:43", after := #[{ on := 0, ground := Ground.data }, { on := 1, ground := Ground.data }, { on := 0, ground := Ground.phase }, { on := 1, ground := Ground.phase }, { on := 2, ground := Ground.phase }, { on := 3, ground := Ground.phase }, { on := 4, ground := Ground.phase }, { on := 5, ground := Ground.phase }, { on := 6, ground := Ground.phase }, { on := 7, ground := Ground.phase }, { on := 8, ground := Ground.phase }, { on := 9, ground := Ground.phase }, { on := 10, ground := Ground.textOnly Departure.appendInPlace }, { on := 11, ground := Ground.textOnly Departure.appendInPlace }], guard := none }) (v := ?_) rfl (by kernel_rfl) (by kernel_rfl) (by kernel_rfl) (fun _ _ _ h => h) (Or.inl ⟨by rfl, ?_⟩) trivial ?_
          rotate_left
          · (intro w' _; go_simp; try with_reducible rfl)
          try simp only [Act.put, List.setIfInBounds_toArray, List.set_cons_zero, List.set_cons_succ]
          refine wpAnyH_take (i := 13) (oi := { dst := some 35, op := Op.fieldAddr 45 (Operand.tmp 34) 2, type := 0, pos := "tree.go:43", after := #[{ on := 12, ground := Ground.data }, { on := 0, ground := Ground.phase }, { on := 1, ground := Ground.phase }, { on := 2, ground := Ground.phase }, { on := 3, ground := Ground.phase }, { on := 4, ground := Ground.phase }, { on := 5, ground := Ground.phase }, { on := 6, ground := Ground.phase }, { on := 7, ground := Ground.phase }, { on := 8, ground := Ground.phase }, { on := 9, ground := Ground.phase }, { on := 10, ground := Ground.textOnly Departure.appendInPlace }, { on := 11, ground := Ground.textOnly Departure.appendInPlace }], guard := none }) (v := ?_) rfl (by kernel_rfl) (by kernel_rfl) (by kernel_rfl) (fun _ _ _ h => h) (Or.inl ⟨by rfl, ?_⟩) trivial ?_
          rotate_left
          · (intro w' _; go_simp; try with_reducible rfl)
          try simp only [Act.put, List.setIfInBounds_toArray, List.set_cons_zero, List.set_cons_succ]
          have hne : (Value.slice (some ⟨g, 0, none⟩) (b.length + 1) vc).ownBlock ≠ (Value.slice ka fr.kids.length kc).ownBlock := fun e => nodup_split (v := .slice (some ⟨g, 0, none⟩) (b.length + 1) vc) (pre := b) (post := []) (x := (fr, .slice ka fr.kids.length kc)) s.stk.nod (g := g) e.symm (lives_top rfl)
          have hst3 := (s.stk.own.alloc (.cells #[.bool false, .int .i64 0, .string ⟨#[]⟩, .int .i64 0, .slice none 0 0] tT)).drew.kept hg3 (.inr hne)
          have d4 : w3.cell? ⟨g, b.length * 5 + 4, none⟩ = some (.slice ka fr.kids.length kc) := stk_cells (pre := b) (post := []) hst3 rfl rfl
          have d5 := own_frozen hst3 rfl (b.length * 5 + 4)
          have hkl5 : ks.length = fr.kids.length * 5 := hko.1
          have f0 := own_frozen hown3 rfl (fr.kids.length * 5)
          have f1 := own_frozen hown3 rfl (fr.kids.length * 5 + 1)
          have f2 := own_frozen hown3 rfl (fr.kids.length * 5 + 2)
          have f3 := own_frozen hown3 rfl (fr.kids.length * 5 + 3)
          have f4 := own_frozen hown3 rfl (fr.kids.length * 5 + 4)
          have hgg : g3 ≠ g := by
            rcases hb3 with e | e
            · rintro rfl; exact hne (by rw [← e]; rfl)
            · have h2 := (s.stk.own.lt g rfl).2; have e2 : g3 = W2.heap.size + 1 := (Option.some.inj e).trans (World.size_alloc _ _); omega
          have z : ∀ i u, (trCells false (0, [], 0) (.slice none 0 0))[i]? = some u → w3.cell? ⟨g3, fr.kids.length * 5 + i, none⟩ = some u := fun i u hi => new_cell hown3 hkl5 rfl hi
          have z0 := z 0 _ rfl
          have z1 := z 1 _ rfl
          have z2 := z 2 _ rfl
          have z3 := z 3 _ rfl
          have z4 := z 4 _ rfl
          simp only [Nat.add_zero] at z0
          clear z
          have hbc : Below W2.heap.size W2 (W2.alloc (.cells #[.bool false, .int .i64 0, .string ⟨#[]⟩, .int .i64 0, .slice none 0 0] tT)).drew := ((Below.refl _ _).alloc (Nat.le_refl _) _).drew
          have fin := put5_at (pre := b) (post := []) (t := .mk false (k, tx, at_) []) (a1 := .bool false) (a2 := .int .i64 k) (a3 := .string ⟨tx.toArray⟩) (a4 := .int .i64 at_) (a5 := .slice none 0 0) (s.below hbc).stk (Nat.le_trans s.bel.size hbc.size) (hko.alloc _).drew (RepL.keep (fun _ hb h => ⟨h, hbc.block _ hb⟩) hbc.size _ _ hkr) hown3 rfl hg3 hb3 rfl (by simp only [Rep]; exact ⟨none, 0, rfl, Nat.le_refl _, ⟨Nat.zero_le _, fun _ => rfl⟩, by simp [RepK]⟩) rfl
          have hsw := set5_swap w3 hgg (o := fr.kids.length * 5) (o' := b.length * 5 + 4) (.bool false) (.int .i64 k) (.string ⟨tx.toArray⟩) (.int .i64 at_) (.slice none 0 0) (.slice (some ⟨g3, 0, none⟩) (fr.kids.length + 1) c3)
          obtain ⟨W3, hW3⟩ : ∃ W3, (set5 w3 g3 (fr.kids.length * 5) (.bool false) (.int .i64 k) (.string ⟨tx.toArray⟩) (.int .i64 at_) (.slice none 0 0)).setCell ⟨g, b.length * 5 + 4, none⟩ (.slice (some ⟨g3, 0, none⟩) (fr.kids.length + 1) c3) = W3 := ⟨_, rfl⟩
          rw [hW3] at fin hsw
          simp only [set5] at hW3 hsw
          have hs3 : RdSt w (.slice (some ⟨g, 0, none⟩) (b.length + 1) vc) b (fr.add (.mk false (k, tx, at_) []), .slice (some ⟨g3, 0, none⟩) (fr.kids.length + 1) c3) W3 := ⟨fin.1, (s.bel.trans (hbc.mono s.bel.size)).trans fin.2⟩
          have HW3 := hide hW3
          replace hsw := hide hsw
          clear fin hW3
          refine wpAnyH_ready (rs := [11, 14]) (by kernel_rfl) (by simp) ?_
          refine AllReadyH.cons (o := { dst := none, op := Op.store 45 (Operand.tmp 33) (Operand.tmp 29), type := 0, pos := "tree.go:43", after := #[{ on := 10, ground := Ground.data }, { on := 6, ground := Ground.data }, { on := 9, ground := Ground.chain }, { on := 0, ground := Ground.phase }, { on := 1, ground := Ground.phase }, { on := 2, ground := Ground.phase }, { on := 3, ground := Ground.phase }, { on := 4, ground := Ground.phase }, { on := 5, ground := Ground.phase }, { on := 6, ground := Ground.phase }, { on := 7, ground := Ground.phase }, { on := 8, ground := Ground.phase }, { on := 9, ground := Ground.phase }, { on := 14, ground := Ground.gcOnly Departure.appendInPlace }], guard := none }) rfl (fun K hK => ?_) (AllReadyH.cons (o := { dst := none, op := Op.store 37 (Operand.tmp 35) (Operand.tmp 32), type := 0, pos := "tree.go:43", after := #[{ on := 13, ground := Ground.data }, { on := 9, ground := Ground.data }, { on := 9, ground := Ground.chain }, { on := 11, ground := Ground.textOnly Departure.appendInPlace }, { on := 0, ground := Ground.phase }, { on := 1, ground := Ground.phase }, { on := 2, ground := Ground.phase }, { on := 3, ground := Ground.phase }, { on := 4, ground := Ground.phase }, { on := 5, ground := Ground.phase }, { on := 6, ground := Ground.phase }, { on := 7, ground := Ground.phase }, { on := 8, ground := Ground.phase }, { on := 9, ground := Ground.phase }, { on := 10, ground := Ground.textOnly Departure.appendInPlace }, { on := 11, ground := Ground.textOnly Departure.appendInPlace }], guard := none }) rfl (fun K hK => ?_) AllReadyH.nil)
          · go_simp
            refine hK.out _ _ trivial (fun _ => ?_)
            clear hK K
            try simp only [Act.put, List.setIfInBounds_toArray, List.set_cons_zero, List.set_cons_succ]
            refine wpAnyH_ready (rs := [14]) (by kernel_rfl) (by simp) ?_
            refine AllReadyH.cons (o := { dst := none, op := Op.store 37 (Operand.tmp 35) (Operand.tmp 32), type := 0, pos := "tree.go:43", after := #[{ on := 13, ground := Ground.data }, { on := 9, ground := Ground.data }, { on := 9, ground := Ground.chain }, { on := 11, ground := Ground.textOnly Departure.appendInPlace }, { on := 0, ground := Ground.phase }, { on := 1, ground := Ground.phase }, { on := 2, ground := Ground.phase }, { on := 3, ground := Ground.phase }, { on := 4, ground := Ground.phase }, { on := 5, ground := Ground.phase }, { on := 6, ground := Ground.phase }, { on := 7, ground := Ground.phase }, { on := 8, ground := Ground.phase }, { on := 9, ground := Ground.phase }, { on := 10, ground := Ground.textOnly Departure.appendInPlace }, { on := 11, ground := Ground.textOnly Departure.appendInPlace }], guard := none }) rfl (fun K hK => ?_) AllReadyH.nil
            go_simp
            refine hK.out _ _ trivial (fun _ => ?_)
            clear hK K
            try simp only [Act.put, List.setIfInBounds_toArray, List.set_cons_zero, List.set_cons_succ]
            refine wpAnyH_done (by kernel_rfl) ?_ _
            rw [HW3.out]
            clear HW3 hsw hst3 d4 d5 f0 f1 f2 f3 f4 z0 z1 z2 z3 z4 hown3 hg3 hb3 hbc hS hko hkr k4 t0 t1 t2 bt s
            go_wp2_with fail
            have hjk := HJ.out
            go_roundg (gk - 1)
            case measure => omega
            case rel =>
              refine ⟨j + 1, g, vc, b, _, by omega, by go_num, rfl, hs3, by omega, ?_, HE⟩
              intro x hx
              rw [List.mem_append, List.mem_singleton] at hx
              rcases hx with hx | rfl
              · exact Nat.le_succ_of_le (hkl x (by simp [hx]))
              · simp only [Fr.add, List.length_append, List.length_singleton]; omega
          · go_simp
            refine hK.out _ _ trivial (fun _ => ?_)
            clear hK K
            try simp only [Act.put, List.setIfInBounds_toArray, List.set_cons_zero, List.set_cons_succ]
            refine wpAnyH_ready (rs := [11]) (by kernel_rfl) (by simp) ?_
            refine AllReadyH.cons (o := { dst := none, op := Op.store 45 (Operand.tmp 33) (Operand.tmp 29), type := 0, pos := "tree.go:43", after := #[{ on := 10, ground := Ground.data }, { on := 6, ground := Ground.data }, { on := 9, ground := Ground.chain }, { on := 0, ground := Ground.phase }, { on := 1, ground := Ground.phase }, { on := 2, ground := Ground.phase }, { on := 3, ground := Ground.phase }, { on := 4, ground := Ground.phase }, { on := 5, ground := Ground.phase }, { on := 6, ground := Ground.phase }, { on := 7, ground := Ground.phase }, { on := 8, ground := Ground.phase }, { on := 9, ground := Ground.phase }, { on := 14, ground := Ground.gcOnly Departure.appendInPlace }], guard := none }) rfl (fun K hK => ?_) AllReadyH.nil
            go_simp
            refine hK.out _ _ trivial (fun _ => ?_)
            clear hK K
            try simp only [Act.put, List.setIfInBounds_toArray, List.set_cons_zero, List.set_cons_succ]
            refine wpAnyH_done (by kernel_rfl) ?_ _
            rw [← hsw.out]
            clear HW3 hsw hst3 d4 d5 f0 f1 f2 f3 f4 z0 z1 z2 z3 z4 hown3 hg3 hb3 hbc hS hko hkr k4 t0 t1 t2 bt s
            go_wp2_with fail
            have hjk := HJ.out
            go_roundg (gk - 1)
            case measure => omega
            case rel =>
              refine ⟨j + 1, g, vc, b, _, by omega, by go_num, rfl, hs3, by omega, ?_, HE⟩
              intro x hx
              rw [List.mem_append, List.mem_singleton] at hx
              rcases hx with hx | rfl
              · exact Nat.le_succ_of_le (hkl x (by simp [hx]))
              · simp only [Fr.add, List.length_append, List.length_singleton]; omega
    · obtain rfl : j = toks.length := by omega
      rw [List.drop_length] at HR
      obtain ⟨ft, tv⟩ := f
      obtain ⟨ks, hko, hkr⟩ := s.stk.kid (ft, tv) (by simp)
      simp only at hko hkr
      obtain ⟨ia, ic, rfl⟩ := own_form hko
      have hbl : b.length ≤ 100000 := by omega
      rcases List.eq_nil_or_concat b with rfl | ⟨b', x, rfl⟩
      · have HE : Hid (runT deep [] ⟨false, (0, [], 0), []⟩ toks = .ok ft.kids) := hide (by rw [HR.out]; exact run_end)
        have k4 := s.stk.cell (pre := []) (post := []) (x := (ft, .slice ia ft.kids.length ic)) rfl (j := 4) (u := .slice ia ft.kids.length ic) rfl
        simp only [List.length_nil, Nat.zero_mul, Nat.zero_add] at k4 ⊢
        have stop := Stk.top (l := []) s.stk
        have bel := s.bel
        clear s HR hko hkr
        go_wp2_with fail
        refine (show Post (.returned (.slice ia ft.kids.length ic)) wr from ?_)
        rw [← HP.out, HE.out]
        exact ⟨bel, _, rfl, stop.keep (fun _ _ h => ⟨h.1, rfl⟩) (Nat.le_refl _)⟩
      · rw [List.concat_eq_append] at *
        have hbn : (b' ++ [x]).length = b'.length + 1 := by simp
        have HE : Hid (runT deep [] ⟨false, (0, [], 0), []⟩ toks = .error (11, ft.tk.2.2)) := hide (by rw [HR.out]; exact run_left (by simp))
        have k3 := s.stk.cell (pre := b' ++ [x]) (post := []) (x := (ft, .slice ia ft.kids.length ic)) rfl (j := 3) (u := .int .i64 ft.tk.2.2) rfl
        rw [hbn] at k3 hbl ⊢
        have bel := s.bel
        clear s HR hko hkr
        go_wp2_with fail
        refine ⟨rfl, (show Post (failT 11 ft.tk.2.2) wr from ?_)⟩
        rw [← HP.out, HE.out]
        exact ⟨bel, rfl⟩
end Go.Proofs.YtajlibegalbbmaaDoor
