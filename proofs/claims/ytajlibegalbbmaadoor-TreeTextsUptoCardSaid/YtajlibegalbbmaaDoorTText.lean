/- tree.Text: by its contract. -/
import Derived.Test.YtajlibegalbbmaaDoorTTextMem
namespace Go.Proofs.YtajlibegalbbmaaDoor
open Go.RowKit

theorem wgt_len : ∀ l : List (List Tr), l.length ≤ wgt l
  | [] => Nat.le_refl _
  | K :: l => by have := wgt_len l; simp only [wgt, List.length_cons]; omega

set_option maxRecDepth 100000 in
set_option maxHeartbeats 3200000 in
theorem text_any (t : Tr) (ka : Option Addr) (cap : Nat) (w : World) (m : Int) (hmx : w.cell? ⟨0, 0, none⟩ = some (.int .i64 m)) (hs : SmallT 4000000 t) (hc : t.kids.length ≤ cap) (hm : CapOk ka cap) (hr : RepK w (fun _ => True) t.kids ka) (hsz : t.size ≤ 1000000) :
    Calls Tryd.prog 18 #[trV t.l t.tk ka t.kids.length cap] w fun e w' => e = .returned (wordRes (textT t)) ∧ Below w.heap.size w w' := by
  obtain ⟨l, tk, kids⟩ := t
  obtain ⟨hst, hsk⟩ := allT_kids hs
  simp only [Tr.l, Tr.tk, Tr.kids] at hc hm hr hst hsk ⊢
  generalize hP : (fun (e : Ending) (w' : World) => e = .returned (wordRes (textT (Tr.mk l tk kids))) ∧ Below w.heap.size w w') = Post
  have HP := hide hP
  clear hP
  obtain ⟨k, tx, a⟩ := tk
  obtain ⟨W, hW⟩ : ∃ W, w.alloc (.cells #[.bool l, .int .i64 k, .string ⟨tx.toArray⟩, .int .i64 a, .slice ka kids.length cap] tT) = W := ⟨_, rfl⟩
  have hb : Below w.heap.size w W := by rw [← hW]; exact (Below.refl _ _).alloc (Nat.le_refl _) _
  have hWs : W.heap.size = w.heap.size + 1 := by rw [← hW]; exact World.size_alloc _ _
  have b1 : Blk W w.heap.size tT #[.bool l, .int .i64 k, .string ⟨tx.toArray⟩, .int .i64 a, .slice ka kids.length cap] := by rw [← hW]; exact Blk.new w _ _
  have HW := hide hW
  clear hW
  have hrm := (hr.mark).far hb (fun _ h => h)
  have hm1 := ck hb hmx
  have h63 : kids.length ≤ maxLen := Nat.le_trans hc hm.1
  unfold maxLen at h63
  simp only [trV]
  go_enter Tryd.func18, Tryd.ntmps18
  go_upto_region 1 with (fail)
  rw [HW.out]
  clear HW
  obtain ⟨c0, c1, c2, c3, c4⟩ := b1.c5
  cases l with
  | false =>
    have hq : textT (Tr.mk false (k, tx, a) kids) = wordK (k, tx, a) := by simp [textT]
    rw [hq] at HP
    clear hq
    go_wp2_with fail
    refine (tword_any k tx a W m hm1 hst).mono ?_
    rintro e w' ⟨rfl, hb1⟩
    have H1 := hide hb1
    clear hb1
    generalize wordK (k, tx, a) = o at HP ⊢
    unfold wordRes at HP ⊢
    go_wp2_with fail
    refine (show Post (.returned (.tuple #[.string ⟨(o.getD []).toArray⟩, .bool o.isSome])) w' from ?_)
    rw [← HP.out]
    exact ⟨rfl, hb.trans (H1.out.mono hb.size)⟩
  | true =>
    have hsk2 : (Tr.mk true (k, tx, a) kids).size = 2 + sizes kids := by simp [Tr.size]
    rw [hsk2] at hsz
    obtain ⟨full, hfull⟩ : ∃ f, textT (Tr.mk true (k, tx, a) kids) = f := ⟨_, rfl⟩
    rw [hfull] at HP
    obtain ⟨W1, hW1⟩ : ∃ W1, W.alloc (.cells #[.pointer none, .slice none 0 0] 65) = W1 := ⟨_, rfl⟩
    have hb1 : Below w.heap.size w W1 := by rw [← hW1]; exact hb.alloc hb.size _
    have hbW : Below w.heap.size W W1 := by rw [← hW1]; exact (Below.refl _ _).alloc hb.size _
    have bd0 : IsBuilder w.heap.size (w.heap.size + 1) (Lib.byteCells []) W1 := by
      rw [← hW1]
      refine .inl ⟨by omega, .slice none 0 0, ?_, World.ownsRow_nil _ _ _ _, by simp [Value.ownBlock]⟩
      have h := Blk.new W 65 #[.pointer none, .slice none 0 0]
      rw [hWs] at h
      exact h
    have b11 : Blk W1 w.heap.size tT #[.bool true, .int .i64 k, .string ⟨tx.toArray⟩, .int .i64 a, .slice ka kids.length cap] := by rw [← hW1]; exact b1.alloc _
    have HW1 := hide hW1
    clear hW1
    go_upto_region 4 with (fail)
    rw [HW1.out]
    clear HW1 c0 c1 c2 c3 c4 b1
    go_upto_region 5 with (go_at_call 33; refine (writeByte_calm w.heap.size (w.heap.size + 1) _ _ W1 bd0 (by simp [Lib.byteCells]) hb1.size).mono ?_; rintro e w2 ⟨rfl, ⟨bd2, hb2⟩, hq2⟩)
    have b12 := blk_calm b11 hq2 (by decide) (by decide)
    obtain ⟨c0, c1, c2, c3, c4⟩ := b12.c5
    clear bd0 b11 hq2
    have hb3 := hb1.trans hb2
    obtain ⟨W3, hW3⟩ : ∃ W3, w2.alloc (.cells #[.slice ka kids.length cap] 37) = W3 := ⟨_, rfl⟩
    have st : TxSt w (w.heap.size + 1) (20000001 + 10000000 * sizes kids) full [kids] true [40] (some ⟨w2.heap.size, 0, none⟩) 1 [.slice ka kids.length cap] W3 := by
      rw [← hW3]
      refine ⟨builder_below (.inr (by simpa [Lib.byteCells] using bd2)) ((Below.refl _ _).alloc (Nat.le_refl _) _), ?_, ?_, hb3.alloc hb3.size _, ?_, ?_, ?_⟩
      · exact ⟨rfl, .inr ⟨w2.heap.size, 1, _, rfl, hb3.size, heap_alloc_new w2 _, Nat.le_refl _, by unfold maxLen; omega, rfl, rfl⟩⟩
      · simp only [RepS]
        exact ⟨_, [], rfl, ⟨ka, cap, rfl, hc, hm, hrm.far ((hbW.trans hb2).alloc hb3.size _) (fun _ h => h)⟩, rfl⟩
      · rw [← hfull, text_list]
        unfold toldT
        simp only [List.reverse_singleton, restS, wrapT]
        cases textsT true kids <;> simp
      · simp [wgt]; omega
      · intro K hK; simp at hK; subst hK; exact hsk
    have HW3 := hide hW3
    clear hW3 bd2
    go_upto_region 6 with (fail)
    rw [HW3.out]
    clear HW3 c0 c1 c2 c3 c4 b12 hrm hr hm1 hb hWs hbW
    have HF := hide hfull
    clear hfull
    go_wp2_with fail
    go_loopg [5, 6] (wgt [kids]) (fun k v5 v6 wr => ∃ (l : List (List Tr)) (first : Bool) (out : List UInt8) (a : Option Addr) (vc : Nat) (xs : List Value), k = wgt l ∧ v5 = .slice a l.length vc ∧ v6 = .bool first ∧ TxSt w (w.heap.size + 1) (20000001 + 10000000 * sizes kids) full l first out a vc xs wr)
    case atStart => exact ⟨[kids], true, [40], _, _, _, rfl, rfl, rfl, st⟩
    case round =>
      obtain ⟨l, first, out, a', vc, xs, rfl, rfl, rfl, s⟩ := hrel
      clear st
      have hwz := s.bel.size
      have hlen := s.len
      have hroom := own_room s.own
      rcases List.eq_nil_or_concat l with rfl | ⟨l', K, rfl⟩
      · have hf := told_end s.told
        go_wp2_with (go_at_call 35; refine (string_any w.heap.size (w.heap.size + 1) out wr s.bd hwz).mono ?_; rintro e wN ⟨rfl, hbN⟩)
        refine (show Post (.returned (.tuple #[.string ⟨out.toArray⟩, .bool true])) wN from ?_)
        rw [← HP.out, hf]
        exact ⟨rfl, s.bel.trans hbN⟩
      · rw [List.concat_eq_append] at *
        obtain ⟨xs', v, rfl, hr1, hr2⟩ := s.rep.last
        have hl' : (l' ++ [K]).length = l'.length + 1 := by simp
        have hrv : (l' ++ [K]).reverse = K :: l'.reverse := by simp
        have hxl := hr1.len
        have ho := s.own
        rw [hl'] at ho hroom ⊢
        rw [wgt_snoc] at hlen
        have hwl := wgt_len l'
        have hkz : sizes kids ≤ 1000000 := by omega
        obtain ⟨g, c', ea⟩ := own_some ho (by omega)
        obtain ⟨rfl, rfl⟩ : a' = some ⟨g, 0, none⟩ ∧ vc = c' := by injection ea with h1 _ h3; exact ⟨h1, h3⟩
        clear ea
        obtain ⟨ia, ic, rfl, m1, m2, m3⟩ := id hr2
        have z0 : wr.cell? ⟨g, l'.length, none⟩ = some (.slice ia K.length ic) := own_cell ho rfl (by rw [List.getElem?_append_right (by omega), hxl, Nat.sub_self]; rfl)
        have hf0 := own_frozen ho rfl l'.length
        have hvc : (l'.length : Int) ≤ (vc : Int) := by omega
        have i1 : (0 : Int) ≤ (l'.length : Int) := by omega
        have i2 : (l'.length : Int) < (l'.length : Int) + 1 := by omega
        have hp := own_pop1 ho hxl
        have htold := s.told
        rw [hrv] at htold
        have hbl : (Lib.byteCells out).length = out.length := Lib.byteCells_length _
        cases K with
        | nil =>
          go_wp2_with (go_at_call 33; refine (writeByte_calm w.heap.size (w.heap.size + 1) _ _ wr s.bd (by rw [hbl]; omega) hwz).mono ?_; rintro e wN ⟨rfl, ⟨bdN, hbN⟩, hqN⟩)
          go_roundg (wgt l')
          case measure => rw [wgt_snoc]; omega
          case rel =>
            refine ⟨l', false, out ++ [41], some ⟨g, 0, none⟩, vc, xs', rfl, rfl, rfl, ⟨.inr (by simpa [Lib.byteCells] using bdN), own_calm hp hqN (by decide) (by decide), hr1.far hbN (fun _ h => h), s.bel.trans hbN, told_pop htold, ?_, fun J hJ => s.sm J (by simp [hJ])⟩⟩
            simp
            omega
        | cons k1 r =>
          have hsk1 := s.sm _ (List.mem_append_right _ List.mem_cons_self)
          simp only [SmallL, allL] at hsk1
          obtain ⟨hk1, hk2⟩ := allT_kids hsk1.1
          obtain ⟨b, off, rfl, -, -, ja, jc, n1, n2, n3, x0, x1, x2, x3, x4⟩ := m3.at (i := 0) (by simp)
          simp only [List.getElem_cons_zero, Nat.zero_mul, Nat.add_zero] at n1 n3 x0 x1 x2 x3 x4
          simp only [List.length_cons] at z0 m1 hr2 ⊢
          have i3 : (0 : Int) < (r.length : Int) + 1 := by omega
          have i4 : (1 : Int) ≤ (r.length : Int) + 1 := by omega
          have i5 : (r.length : Int) + 1 ≤ (ic : Int) := by omega
          obtain ⟨W8, hW8⟩ : ∃ W8, wr.alloc (.cells #[.bool k1.l, .int .i64 k1.tk.1, .string ⟨k1.tk.2.1.toArray⟩, .int .i64 k1.tk.2.2, .slice ja k1.kids.length jc] tT) = W8 := ⟨_, rfl⟩
          have b8 : Blk W8 wr.heap.size tT #[.bool k1.l, .int .i64 k1.tk.1, .string ⟨k1.tk.2.1.toArray⟩, .int .i64 k1.tk.2.2, .slice ja k1.kids.length jc] := by rw [← hW8]; exact Blk.new _ _ _
          have hb8 : Below wr.heap.size wr W8 := by rw [← hW8]; exact (Below.refl _ _).alloc (Nat.le_refl _) _
          have own8 : W8.ownsRow w.heap.size 37 1 (.slice (some ⟨g, 0, none⟩) (l'.length + 1) vc) (l'.length + 1) (xs' ++ [.slice (some ⟨b, off, none⟩) (r.length + 1) ic]) := by rw [← hW8]; exact ho.alloc _
          go_upto_region 14 with (fail)
          clear hW8
          have z8 := ck hb8 z0
          have hf8 := own_frozen own8 rfl l'.length
          have he : ((r.length : Int) + 1 == 0) = false := beq_eq_false_iff_ne.2 (by omega)
          go_upto_region 15 with (fail)
          obtain ⟨v9, hv9⟩ : ∃ v9, Value.slice (if ic = 1 then some ⟨b, off, none⟩ else some ⟨b, off + 5, none⟩) r.length (ic - 1) = v9 := ⟨_, rfl⟩
          obtain ⟨W9, hW9⟩ : ∃ W9, W8.setCell ⟨g, l'.length, none⟩ v9 = W9 := ⟨_, rfl⟩
          have hgl := ho.lt g rfl
          have hb9 : Below w.heap.size wr W9 := by rw [← hW9]; exact (hb8.mono hwz).setCell hgl.1 _
          have bd9 : IsBuilder w.heap.size (w.heap.size + 1) (Lib.byteCells out) W9 := by rw [← hW9]; exact builder_set (builder_below s.bd hb8) own8 rfl (by decide) (by decide) _ _
          have own9 : W9.ownsRow w.heap.size 37 1 (.slice (some ⟨g, 0, none⟩) (l'.length + 1) vc) (l'.length + 1) (xs' ++ [v9]) := by
            rw [← hW9]
            have h := own_put own8 rfl (i := l'.length) v9
            rw [List.set_append, if_neg (by omega), hxl, Nat.sub_self, List.set_cons_zero] at h
            exact h
          have rep9 : RepS W9 (fun b => b < w.heap.size) (l' ++ [r]) (xs' ++ [v9]) := by
            rw [← hv9]
            exact (hr1.far hb9 (fun _ h => h)).snoc ((repV_tail (fun h => h) hr2).keep (fun b _ hk => ⟨hk, hb9.block b hk⟩) hb9.size)
          have b9 : Blk W9 wr.heap.size tT #[.bool k1.l, .int .i64 k1.tk.1, .string ⟨k1.tk.2.1.toArray⟩, .int .i64 k1.tk.2.2, .slice ja k1.kids.length jc] := by rw [← hW9]; exact b8.far (by simp; omega) _
          have n9 := n3.far hb9 (fun _ h => h)
          rw [hv9, hW9]
          have hsm9 : ∀ J ∈ l' ++ [r], SmallL 4000000 J := fun J hJ => by
            rcases List.mem_append.1 hJ with h | h
            · exact s.sm J (by simp [h])
            · simp at h; subst h; exact hsk1.2
          have bel9 := s.bel.trans hb9
          clear hv9 hW9 b8 hb8 own8 z8 hf8 he x0 x1 x2 x3 x4 z0 hf0 hr1 hr2 n3 hp ho s
          go_upto_if 54 with (fail)
          go_cut [] from 55 to 55 (fun wc => IsBuilder w.heap.size (w.heap.size + 1) (Lib.byteCells (out ++ (if first then [] else [32]))) wc ∧ Calm W9 wc ∧ Below w.heap.size W9 wc)
          case first =>
            cases first with
            | true =>
              go_wp2_with fail
              go_meet
              exact ⟨by simpa using bd9, Calm.refl _, Below.refl _ _⟩
            | false =>
              go_wp2_with (go_at_call 33; refine (writeByte_calm w.heap.size (w.heap.size + 1) _ _ W9 bd9 (by rw [hbl]; omega) bel9.size).mono ?_; rintro e wN ⟨rfl, ⟨bdN, hbN⟩, hqN⟩)
              go_meet
              exact ⟨.inr (by simpa [Lib.byteCells] using bdN), hqN, hbN⟩
          case rest =>
            obtain ⟨bdc, hqc, hbc⟩ := hcut
            have ownc := own_calm own9 hqc (by decide) (by decide)
            have repc := rep9.far hbc (fun _ h => h)
            have boxc := blk_calm b9 hqc (by decide) (by decide)
            have nc := n9.far hbc (fun _ h => h)
            have belc := bel9.trans hbc
            have hol : (Lib.byteCells (out ++ (if first then [] else [32]))).length ≤ out.length + 1 := by rw [Lib.byteCells_length]; cases first <;> simp
            have hos : (out ++ (if first then [] else [32])).length ≤ out.length + 1 := by cases first <;> simp
            obtain ⟨c0, c1, c2, c3, c4⟩ := boxc.c5
            clear own9 rep9 b9 n9 bd9 bel9 hb9 hqc hbc
            simp only [sizes] at hlen
            have hsz1 := size_eq k1
            cases hkl : k1.l with
            | true =>
              rw [hkl, if_pos rfl] at hsz1
              rw [hkl] at c0 boxc
              have ht := told_push hkl htold
              generalize out ++ (if first then [] else [32]) = out1 at bdc hol hos ht
              go_upto_region 20 with (go_at_call 33; refine (writeByte_calm w.heap.size (w.heap.size + 1) _ _ wc bdc (by omega) belc.size).mono ?_; rintro e wd ⟨rfl, ⟨bdd, hbd⟩, hqd⟩)
              have ownd := own_calm ownc hqd (by decide) (by decide)
              have repd := repc.far hbd (fun _ h => h)
              have boxd := blk_calm boxc hqd (by decide) (by decide)
              have nd := nc.far hbd (fun _ h => h)
              have beld := belc.trans hbd
              obtain ⟨d0, d1, d2, d3, d4⟩ := boxd.c5
              clear c0 c1 c2 c3 c4 ownc repc boxc nc bdc hqd hbd
              obtain ⟨i0, hi0, hz0, hz1, hz2⟩ := info_parts infoSl
              have hwd := beld.size
              go_wp2_with (at_builtin; refine wpList_append_own _ rfl _ _ 69 rfl w.heap.size 37 i0 (.slice none 0 0) 1 24 Tryd.underlying69 hi0 hz0 hz1 hz2 rfl (by decide) _ _ _ rfl (ownd.alloc _) ⟨wd.heap.size, 0, none⟩ 1 1 [.slice ja k1.kids.length jc] rfl rfl ?c1 ?c2 ?c3 ?c4 ?c5 ?_)
              case c1 => exact new_cells _ _ _ _ (by simp)
              case c2 => intro u hu; simp at hu; subst hu; rfl
              case c3 => unfold maxLen; omega
              case c4 => omega
              case c5 => simp; omega
              intro v' w5 hown5 hg5 _
              obtain ⟨a5, vc5, rfl⟩ := own_form hown5
              have hb5 : Below w.heap.size wd w5 := ((Below.refl _ _).alloc hwd _).trans (below_grown_row hg5 (ownd.alloc _) (by simp; omega))
              have st5 : TxSt w (w.heap.size + 1) (20000001 + 10000000 * sizes kids) full ((l' ++ [r]) ++ [k1.kids]) true (out1 ++ [40]) a5 vc5 ((xs' ++ [v9]) ++ [.slice ja k1.kids.length jc]) w5 := by
                have hll : ((l' ++ [r]) ++ [k1.kids]).length = l'.length + 1 + 1 := by simp
                refine ⟨?_, by rw [hll, List.append_assoc]; exact hown5, (repd.far hb5 (fun _ h => h)).snoc ⟨ja, jc, rfl, n1, n2, nd.far hb5 (fun _ h => h)⟩, beld.trans hb5, ?_, ?_, ?_⟩
                · exact builder_grown (builder_below (.inr (by simpa [Lib.byteCells] using bdd)) ((Below.refl _ _).alloc (Nat.le_refl _) _)) (ownd.alloc _) (by decide) (by decide) hg5
                · simpa using ht
                · simp only [List.length_append, List.length_singleton, wgt_snoc]; omega
                · intro J hJ
                  rcases List.mem_append.1 hJ with h | h
                  · exact hsm9 J h
                  · simp at h; subst h; exact hk2
              clear hown5 hg5 hb5 d0 d1 d2 d3 d4 ownd repd boxd nd bdd beld
              go_wp2_with fail
              go_roundg (wgt ((l' ++ [r]) ++ [k1.kids]))
              case measure => rw [wgt_snoc, wgt_snoc, wgt_snoc]; simp only [sizes]; omega
              case rel => exact ⟨_, true, _, a5, vc5, _, rfl, by simp, rfl, st5⟩
            | false =>
              rw [hkl, if_neg (by simp)] at hsz1
              rw [hkl] at c0 boxc
              have hmc := ck belc hmx
              have hbad := fun (h : wordK k1.tk = none) => told_bad hkl h htold
              have hgood := fun (s : List UInt8) (h : wordK k1.tk = some s) => told_atom hkl h htold
              have hwl2 := fun (s : List UInt8) (h : wordK k1.tk = some s) => wordK_len h
              have hWd := tword_any k1.tk.1 k1.tk.2.1 k1.tk.2.2 wc m hmc hk1
              unfold tokAgg at hWd
              have HB := hide hbad
              have HG := hide hgood
              have HL := hide hwl2
              clear hbad hgood hwl2 htold
              cases hw : wordK k1.tk with
              | none =>
                have hf := HB.out hw
                rw [show wordK (k1.tk.1, k1.tk.2.1, k1.tk.2.2) = none from hw] at hWd
                unfold wordRes at hWd
                go_wp2_with (go_at_call 32; refine hWd.mono ?_; rintro e we ⟨rfl, hbe⟩)
                refine (show Post (.returned (.tuple #[.string ⟨#[]⟩, .bool false])) we from ?_)
                rw [← HP.out, hf]
                exact ⟨rfl, belc.trans (hbe.mono belc.size)⟩
              | some s1 =>
                have ht := HG.out s1 hw
                have hs1 := HL.out s1 hw
                rw [show wordK (k1.tk.1, k1.tk.2.1, k1.tk.2.2) = some s1 from hw] at hWd
                unfold wordRes at hWd
                clear HB HG HL hw
                generalize out ++ (if first then [] else [32]) = out1 at bdc hol hos ht
                have hss : (⟨s1.toArray⟩ : ByteArray).size = s1.length := by simp [ByteArray.size]
                go_upto_region 24 with (go_at_call 32; refine hWd.mono ?_; rintro e we ⟨rfl, hbe⟩)
                have bde := builder_below bdc hbe
                have owne := own_calm ownc (Calm.of_below hbe) (by decide) (by decide)
                have repe := repc.far (hbe.mono belc.size) (fun _ h => h)
                have bele := belc.trans (hbe.mono belc.size)
                clear c0 c1 c2 c3 c4 ownc repc boxc nc bdc hbe hWd
                go_wp2_with (go_at_call 34; refine (writeString_calm w.heap.size (w.heap.size + 1) _ ⟨s1.toArray⟩ we bde (by rw [hss]; omega) bele.size).mono ?_; rintro e wd ⟨rfl, ⟨bdd, hbd⟩, hqd⟩)
                have st5 : TxSt w (w.heap.size + 1) (20000001 + 10000000 * sizes kids) full (l' ++ [r]) false (out1 ++ s1) (some ⟨g, 0, none⟩) vc (xs' ++ [v9]) wd := by
                  have hll : (l' ++ [r]).length = l'.length + 1 := by simp
                  refine ⟨?_, by rw [hll]; exact own_calm owne hqd (by decide) (by decide), repe.far hbd (fun _ h => h), bele.trans hbd, ?_, ?_, hsm9⟩
                  · have e : Lib.byteCells out1 ++ Lib.strCells ⟨s1.toArray⟩ = Lib.byteCells (out1 ++ s1) := by simp [Lib.byteCells, Lib.strCells]
                    rw [e] at bdd
                    exact .inr bdd
                  · simpa using ht
                  · simp only [List.length_append, wgt_snoc]; omega
                go_roundg (wgt (l' ++ [r]))
                case measure => rw [wgt_snoc, wgt_snoc]; simp only [sizes]; omega
                case rel => exact ⟨_, false, _, some ⟨g, 0, none⟩, vc, _, rfl, by simp, rfl, st5⟩
end Go.Proofs.YtajlibegalbbmaaDoor
