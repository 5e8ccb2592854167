/- collatorref01.Form and Int: by their contracts. -/
import Derived.Test.YthpibilefdmemaaDoorROf
namespace Go.Proofs.YthpibilefdmemaaDoor
open Go.RowKit

theorem val_drop_take (X : List Nat) (k t : Nat) : val 10 ((X.drop k).take (t + 1)) = X.getD k 0 + 10 * val 10 ((X.drop (k + 1)).take t) := by
  rcases Nat.lt_or_ge k X.length with h | h
  · rw [List.drop_eq_getElem_cons h, List.take_succ_cons]
    simp [val, List.getD, List.getElem?_eq_getElem h]
  · rw [List.drop_of_length_le h, List.drop_of_length_le (by omega)]
    simp [val, List.getD, List.getElem?_eq_none h]
theorem val_nine (X : List Nat) (i : Nat) (hi : i ≤ X.length) : val 10 (X.take (i + 9)) = val 10 (X.take i) + 10 ^ i * val 10 ((X.drop i).take 9) := by
  rw [List.take_add, val_append, List.length_take, Nat.min_eq_left hi]
theorem canon_big {b : Nat} {X : List Nat} (h : Canon b X) (hne : X ≠ []) : b ^ (X.length - 1) ≤ val b X := by
  rcases snoc_cases X with rfl | ⟨r, d, rfl⟩
  · exact absurd rfl hne
  · have hd : d ≠ 0 := fun e => h.2 (by simp [e])
    rw [val_snoc, List.length_append, List.length_singleton, Nat.add_sub_cancel]
    have : b ^ r.length * 1 ≤ b ^ r.length * d := Nat.mul_le_mul_left _ (by omega)
    omega
theorem canon_of_big {b : Nat} {X : List Nat} (h : Digs b X) (hb : X ≠ [] → b ^ (X.length - 1) ≤ val b X) : Canon b X := by
  refine ⟨h, fun e => ?_⟩
  rcases snoc_cases X with rfl | ⟨r, d, rfl⟩
  · simp at e
  · obtain rfl : d = 0 := by simpa using e
    have h1 := hb (by simp)
    rw [val_snoc, List.length_append, List.length_singleton, Nat.add_sub_cancel, Nat.mul_zero] at h1
    have h2 := val_lt (ds := r) (b := b) (fun x hx => h x (by simp [hx]))
    omega
theorem OwnD.set_low {w : World} {base g i : Nat} {v : Value} {ds : List Nat} (h : OwnD w base v ds) (hg : g < base) (u : Value) : OwnD (w.setCell ⟨g, i, none⟩ u) base v ds := by
  refine h.kept (row := some g) (only_setCell (only_refl _ _) (.inl rfl) u) ?_
  right
  intro e
  have := (World.ownsRow.lt h g e).1
  omega

/-- What is told of the decimal digits ahead of I. -/
structure FoSt (w : World) (B : Nat) (neg : Bool) (X : List Nat) (I : Nat) (va : Option Addr) (vc : Nat) (ds : List Nat) (wr : World) : Prop where
  own : OwnD wr (B + 3) (.slice va ds.length vc) ds
  blk : Blk wr (B + 1 + 1) 24 #[.bool neg, .slice va ds.length vc]
  len : I = 9 * ds.length
  lim : I < X.length + 9
  digs : Digs BB ds
  sum : val BB ds = val 10 (X.take I)
  bel : Below (B + 1 + 1) w wr
  le : B + 3 ≤ wr.heap.size
theorem FoSt.next {w wr w2 w' : World} {B I n vc vc' : Nat} {neg : Bool} {X ds : List Nat} {va va' : Option Addr} (s : FoSt w B neg X I va vc ds wr) (hI : I < X.length) (hn : n = val 10 ((X.drop I).take 9)) (hX : Digs 10 X) (ho : OwnD w2 (B + 3) (.slice va' (ds ++ [n]).length vc') (ds ++ [n])) (hb : Below (B + 3) wr w2) (hw : w2.setCell ⟨B + 1 + 1, 1, none⟩ (.slice va' (ds.length + 1) vc') = w') :
    FoSt w B neg X (I + 9) va' vc' (ds ++ [n]) w' := by
  subst hw
  have hlt : n < BB := by
    rw [hn]
    have h := val_lt ((hX.drop I).take 9)
    exact Nat.lt_of_lt_of_le h (show 10 ^ _ ≤ 10 ^ 9 from Nat.pow_le_pow_right (by decide) (by simp; omega))
  have hl : (ds ++ [n]).length = ds.length + 1 := by simp
  refine ⟨ho.set_low (by omega) _, ?_, by rw [hl, s.len]; omega, by omega, s.digs.snoc hlt, ?_, (s.bel.trans (hb.mono (by omega))).setCell (Nat.le_refl _) _, ?_⟩
  · rw [hl]
    have h := (s.blk.below hb (by omega)).set_ 1 (.slice va' (ds.length + 1) vc')
    simpa using h
  · rw [val_snoc, s.sum, val_nine X I (by omega), BB_pow, ← s.len, hn]
  · rw [World.size_setCell]; exact Nat.le_trans s.le hb.size
theorem FoSt.done {w wr : World} {B I vc : Nat} {neg : Bool} {X ds : List Nat} {va : Option Addr} {z : Int} (s : FoSt w B neg X I va vc ds wr) (hI : X.length ≤ I) (hX : X = dg 10 z.natAbs) (hneg : neg = decide (z < 0)) : IntV wr (.agg #[.bool neg, .slice va ds.length vc]) z := by
  have hv : val BB ds = z.natAbs := by rw [s.sum, List.take_of_length_le hI, hX, dg_val T2]
  have hc : Canon BB ds := by
    refine canon_of_big s.digs fun hne => ?_
    have h1 := s.len
    have h2 := s.lim
    have h0 : 0 < ds.length := List.length_pos_iff.2 hne
    have h3 := canon_big (dg_canon T2 z.natAbs) (by rw [← hX]; intro e; rw [e] at h2; simp at h2; omega)
    rw [dg_val T2, ← hX] at h3
    rw [hv, BB_pow]
    exact Nat.le_trans (Nat.pow_le_pow_right (by decide) (by omega)) h3
  obtain ⟨hd, hf⟩ := own_dg s.own
  have e := dg_of BB2 hc hv
  subst hneg
  exact ⟨va, vc, by rw [e], by rw [e]; exact hf, by rw [e]; exact hd⟩

set_option maxRecDepth 100000 in
set_option maxHeartbeats 1600000 in
theorem Form_any {x : Int} {v : Value} (w : World) (hx : NumV w v x) (hn : dlen x ≤ 100000000000) :
    Calls Tryd.prog 15 #[v] w (IntPost w x) := by
  generalize hP : IntPost w x = Post
  have HP := hide hP
  clear hP
  obtain ⟨a, cap, rfl, hf, hd⟩ := hx
  have hX := (dg_canon T2 x.natAbs).1
  unfold dlen at hn
  generalize hXe : dg 10 x.natAbs = X at *
  have HXE := hide hXe.symm
  clear hXe
  generalize hne : decide (x < 0) = neg at *
  have HNE := hide hne.symm
  clear hne
  obtain ⟨W, hW⟩ : ∃ W, ((w.alloc (.cells #[.bool neg, .slice a X.length cap] 30)).alloc (.cells #[.bool false, .slice none 0 0] 24)).alloc (.cells #[.bool neg, .slice none 0 0] 24) = W := ⟨_, rfl⟩
  have hsz : W.heap.size = w.heap.size + 3 := by rw [← hW]; simp
  have hZ : Blk W w.heap.size 30 #[.bool neg, .slice a X.length cap] := by rw [← hW]; exact ((Blk.new w _ _).alloc _).alloc _
  have hR : Blk W (w.heap.size + 1) 24 #[.bool false, .slice none 0 0] := by rw [← hW]; exact (Blk.new_at _ _ _ (by simp)).alloc _
  have hO : Blk W (w.heap.size + 1 + 1) 24 #[.bool neg, .slice none 0 0] := by rw [← hW]; exact Blk.new_at _ _ _ (by simp)
  have hB : Below w.heap.size w W := by rw [← hW]; exact (((Below.refl _ _).alloc (Nat.le_refl _) _).alloc (by simp) _).alloc (by simp; omega) _
  have s0 : FoSt W w.heap.size neg X 0 none 0 [] W := ⟨OwnD.nil _ _, hO, rfl, by omega, Digs.nil _, by simp [val], Below.refl _ _, by omega⟩
  have hd0 := hd.below hB (Nat.le_refl _)
  have HSZ := hide hsz
  have HW := hide hW
  clear hsz hO hW
  go_enter Tryd.func15, Tryd.ntmps15
  go_upto_region 2 with (fail)
  rw [HW.out]
  clear HW
  go_wp2_with fail
  go_loopg [4, 5, 6] X.length (fun r i _n _k wr => ∃ (I : Nat) (ds : List Nat) (va : Option Addr) (vc : Nat), X.length - I = r ∧ i = .int .i64 (I : Int) ∧ FoSt W w.heap.size neg X I va vc ds wr)
  case atStart => exact ⟨0, [], none, 0, by omega, rfl, s0⟩
  case round =>
    obtain ⟨I, ds, va, vc, hIr, rfl, s⟩ := hrel
    clear s0
    have hlen := s.len
    have hlim := s.lim
    obtain ⟨z0, z1, -⟩ := (hZ.below s.bel (by omega)).c2
    obtain ⟨o0, o1, of⟩ := s.blk.c2
    rcases Nat.lt_or_ge I X.length with hj | hj
    · have HIR := hide hIr
      have HLEN := hide hlen
      clear hIr hlen
      obtain ⟨G, hG⟩ : ∃ G, G = gk := ⟨_, rfl⟩
      subst hG
      go_wp2_with fail
      go_loopg [5, 6] 9 (fun m n k wi => wr = wi ∧ ∃ nn : Nat, m ≤ 9 ∧ k = .int .i64 (((I + m : Nat) : Int) - 1) ∧ n = .int .i64 (nn : Int) ∧ Hid (nn = val 10 ((X.drop (I + m)).take (9 - m))))
      case atStart => exact ⟨rfl, 0, Nat.le_refl _, by congr 1; omega, rfl, hide (by simp [val])⟩
      case round =>
        obtain ⟨rfl, n, hm9, rfl, rfl, HNN⟩ := hrel
        have hnl : n < 10 ^ (9 - gk) := by
          rw [HNN.out]
          have h := val_lt ((hX.drop (I + gk)).take (9 - gk))
          exact Nat.lt_of_lt_of_le h (Nat.pow_le_pow_right (by decide) (by simp; omega))
        rcases gk with _ | m
        · have hn9 : n < 1000000000 := hnl
          clear hnl
          have hle1 := s.le
          have ho1 := s.own.alloc (.cells #[.int .u32 (n : Int)] 81)
          have hbk := s.blk
          have hdl : ds.length ≤ 100000000000 := by have := HLEN.out; omega
          have e1 : ¬ ((I : Int) ≤ ((I + 0 : Nat) : Int) - 1) := by omega
          have e2 : decide ((I : Int) ≤ ((I + 0 : Nat) : Int) - 1) = false := decide_eq_false e1
          go_wp2_with (at_builtin; refine wpList_append_dig rfl (.tmp 39) (.tmp 42) rfl (w.heap.size + 3) _ ds rfl ho1 ⟨_, 0, none⟩ n rfl ?c1 ?c2 ?c3 ?_)
          case c2 => omega
          case c3 => omega
          intro v' w2 ho2 hb2
          have hb3 : Below (w.heap.size + 3) wr w2 := ((Below.refl _ _).alloc hle1 _).trans hb2
          obtain ⟨va', vc', rfl⟩ := own_slice ho2
          obtain ⟨q0, q1, qf⟩ := (hbk.below hb3 (by omega)).c2
          have qf1 := qf 1
          have hl2 : (ds ++ [n]).length = ds.length + 1 := by simp
          obtain ⟨w3, hw3⟩ : ∃ w3, w2.setCell ⟨w.heap.size + 1 + 1, 1, none⟩ (.slice va' (ds.length + 1) vc') = w3 := ⟨_, rfl⟩
          have s3 := s.next hj (by have := HNN.out; simpa using this) hX ho2 hb3 hw3
          rw [hl2]
          clear ho1 ho2 hb2 hb3 s hbk hl2 e1 e2 o0 o1 of z0 z1
          go_wp2_with fail
          clear hw3
          have hIr := HIR.out
          go_roundg (X.length - (I + 9))
          case measure => omega
          case rel => exact ⟨I + 9, _, va', vc', rfl, by go_num, s3⟩
        · rw [show (((I + (m + 1) : Nat) : Int) - 1) = ((I + m : Nat) : Int) by omega]
          have hv := val_drop_take X (I + m) (9 - (m + 1))
          rw [show 9 - (m + 1) + 1 = 9 - m by omega, show I + m + 1 = I + (m + 1) by omega, ← HNN.out] at hv
          have HV := hide hv
          have hn8 : n < 100000000 := Nat.lt_of_lt_of_le hnl (show 10 ^ (9 - (m + 1)) ≤ 10 ^ 8 from Nat.pow_le_pow_right (by decide) (by omega))
          have e1 : decide (I ≤ I + m) = true := decide_eq_true (by omega)
          clear hv hnl
          rcases Nat.lt_or_ge (I + m) X.length with hk | hk
          · obtain ⟨b1, o1, rfl, hc1, hl1⟩ := hd0.at hk
            have hl2 : b1 < w.heap.size := by
              have := World.block_lt_of_cell? w _ (by obtain ⟨b, o, e, hc⟩ := hd (by omega); simp at e; obtain ⟨rfl, rfl⟩ := e; exact hc _ hk)
              exact this
            replace hc1 := (s.bel.cell (p := ⟨b1, o1 + (I + m), none⟩) (by show b1 < _; omega)).trans hc1
            have hd9 := hX.at hk
            have HG : Hid (X.getD (I + m) 0 = X[I + m]) := hide (by simp [List.getD, List.getElem?_eq_getElem hk])
            generalize X[I + m] = d at hc1 hd9 HG
            have hKb : I + m ≤ 100000000100 := by omega
            generalize hK : I + m = K at *
            have HK := hide hK
            clear hK
            go_wp2_with fail
            go_roundg m
            case measure => omega
            case rel => exact ⟨rfl, 10 * n + d, by omega, by have := HK.out; congr 1; omega, by go_num, hide (by have h1 := HV.out; have h2 := HG.out; have h3 := HK.out; rw [h3, h1, h2]; omega)⟩
          · have HG : Hid (X.getD (I + m) 0 = 0) := hide (by simp [List.getD, List.getElem?_eq_none hk])
            have hKb : I + m ≤ 100000000100 := by omega
            generalize hK : I + m = K at *
            have HK := hide hK
            clear hK
            go_wp2_with fail
            go_roundg m
            case measure => omega
            case rel => exact ⟨rfl, 10 * n, by omega, by have := HK.out; congr 1; omega, by go_num, hide (by have h1 := HV.out; have h2 := HG.out; have h3 := HK.out; rw [h3, h1, h2]; omega)⟩
    · have hV := s.done hj HXE.out HNE.out
      have hR2 := hR.below s.bel (by omega)
      have hB2 : Below w.heap.size w wr := hB.trans (s.bel.mono (by omega))
      have hI := hV.store hR2 (.bool neg) (.slice va ds.length vc)
      obtain ⟨k0, k1, kf⟩ := hR2.c2
      have kf0 := kf 0
      have kf1 := kf 1
      obtain ⟨e0, e1, -⟩ := (hR2.two (.bool neg) (.slice va ds.length vc)).c2
      clear s hlen
      go_wp2_with fail
      refine bodyPost_ret (v := .agg #[.bool neg, .slice va ds.length vc]) (by simp [results, Tryd.results15, go_sem, e0, e1]) rfl ?_
      rw [← HP.out]
      exact ⟨_, rfl, hI, (hB2.setCell (by simp) _).setCell (by simp) _⟩
end Go.Proofs.YthpibilefdmemaaDoor
