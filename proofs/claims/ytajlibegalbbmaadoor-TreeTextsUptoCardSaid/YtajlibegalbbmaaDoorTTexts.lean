/- The walk of the law TreeTexts. -/
import Derived.Test.YtajlibegalbbmaaDoorTOpen
import Derived.Test.YtajlibegalbbmaaDoorTClean
import Derived.Test.YtajlibegalbbmaaDoorTSpeaks
namespace Go.Proofs.YtajlibegalbbmaaDoor
open Go.RowKit

theorem TokRow.tokIn {w : World} {a : Option Addr} {toks : List (Nat × List UInt8 × Nat)} (h : TokRow w a toks) : TokIn w w.heap.size a (tokI toks) := by
  intro hn
  have hl : (tokI toks).length = toks.length := by simp [tokI]
  obtain ⟨b, off, e, hc⟩ := h (by omega)
  have h0 := (hc 0 (by omega)).1
  have hlt := World.block_lt_of_cell? w _ h0
  refine ⟨b, off, e, by simpa using hlt, fun i hi => ?_⟩
  have := hc i (by omega)
  simpa [tokI] using this
theorem read_conv (W : World) (s : List UInt8) (cap : Nat) (fr : Nat × Nat) (hle : s.length ≤ cap) (hs : s.length ≤ 10000000) {toks : List (Nat × List UInt8 × Nat)} (hl : lex s = .ok toks) :
    Calls Tryd.prog 11 #[.slice (some ⟨W.heap.size, 0, none⟩) s.length cap, .int .i64 (s.length : Int)] (W.alloc (.cells (bytesRow ⟨s.toArray⟩ cap) 5 fr)).drew fun e w' =>
      ∃ va vc, e = .returned (.tuple #[.slice va toks.length vc, faultAgg 0 0]) ∧ TokRow w' va toks ∧ Below W.heap.size W w' := by
  refine (read_any _ _ cap s _ (txt_bytes W s cap fr).drew' hle (by omega)).mono ?_
  intro e w1 hpost
  obtain ⟨hb1, h2⟩ := hpost
  rw [if_neg (by omega), hl] at h2
  obtain ⟨v, he, hown⟩ := h2
  obtain ⟨va, vc, rfl⟩ := own_slice hown
  exact ⟨va, vc, he, row_of_own hown rfl, (((Below.refl _ _).alloc (Nat.le_refl _) _).drew).trans (hb1.mono (by simp))⟩

set_option maxRecDepth 100000 in
set_option maxHeartbeats 3200000 in
theorem ttexts_walk (t : Tr) (ka : Option Addr) (cap : Nat) (w : World) (m : Int) (hmx : w.cell? ⟨0, 0, none⟩ = some (.int .i64 m)) (hc : t.kids.length ≤ cap) (hm : CapOk ka cap) (hr : RepK w (fun _ => True) t.kids ka) (hlen : lenT t ≤ 1048576) :
    Calls Tryd.prog 6 #[trV t.l t.tk ka t.kids.length cap] w fun e w' => e = .returned (.bool true) ∧ Below w.heap.size w w' := by
  have kb := fun (w : World) (s : ByteArray) => run_bytes_of_string (P := Tryd.prog) w 9 24 5 s Tryd.underlying9 Tryd.underlying24 Tryd.underlying5
  have hsm := small_len (n := 4000000) t (by omega)
  generalize hP : (fun (e : Ending) (w' : World) => e = .returned (.bool true) ∧ Below w.heap.size w w') = Post
  have HP := hide hP
  clear hP
  obtain ⟨W, hW⟩ : ∃ W, w.alloc (.cells #[.bool t.l, .int .i64 t.tk.1, .string ⟨t.tk.2.1.toArray⟩, .int .i64 t.tk.2.2, .slice ka t.kids.length cap] tT) = W := ⟨_, rfl⟩
  have hb : Below w.heap.size w W := by rw [← hW]; exact (Below.refl _ _).alloc (Nat.le_refl _) _
  have b1 : Blk W w.heap.size tT #[.bool t.l, .int .i64 t.tk.1, .string ⟨t.tk.2.1.toArray⟩, .int .i64 t.tk.2.2, .slice ka t.kids.length cap] := by rw [← hW]; exact Blk.new w _ _
  have HW := hide hW
  clear hW
  replace hr := hr.below hb
  replace hmx := ck hb hmx
  have hpart := parts_any t ka cap 300
  have hpok := parts_ok t 300 (by omega)
  simp only [trV] at hpart ⊢
  go_enter Tryd.func6, Tryd.ntmps6
  go_upto_region 1 with (fail)
  rw [HW.out]
  clear HW
  go_upto_region 3 with (go_at_call 13; refine (tspeaks_any W m hmx).mono ?_; rintro e w1 ⟨rfl, hb1⟩)
  replace b1 := b1.below hb1 b1.lt
  replace hr := hr.below hb1
  replace hmx := ck hb1 hmx
  have hbw := hb.trans (hb1.mono hb.size)
  clear hb hb1
  obtain ⟨c0, c1, c2, c3, c4⟩ := b1.c5
  replace hpart := hpart w1 hc hm hr (by omega) (by omega)
  generalize hpq : partsT t 300 = pq at hpart hpok
  clear hpq
  by_cases hbig : pq ≤ 300
  · have e1 : decide ((300 : Int) < pq) = false := decide_eq_false (by omega)
    obtain ⟨p1, p2, p3⟩ := hpok
    have hnodes := p3 hbig
    have hsize := size_nodes t
    have hsz : t.size ≤ 600 := by omega
    clear hbig p1 p2 p3 hnodes hsize
    go_upto_region 5 with (go_at_call 17; refine hpart.mono ?_; rintro e w2 ⟨rfl, hb2⟩)
    replace b1 := b1.below hb2 b1.lt
    replace hr := hr.below hb2
    replace hmx := ck hb2 hmx
    replace hbw := hbw.trans (hb2.mono hbw.size)
    clear hb2 hpart e1
    obtain ⟨c0, c1, c2, c3, c4⟩ := b1.c5
    have hT := text_any t ka cap w2 m hmx hsm hc hm hr (by omega)
    have hZ := fun (W' : World) (hr' : RepK W' (fun _ => True) t.kids ka) => size_any t ka cap W' hc hm hr' (by omega)
    have hZr := fun (W' : World) (hr' : RepK W' (fun _ => True) t.kids ka) => rsize_any t ka cap W' hc hm hr' (by omega)
    have hR := fun (W' : World) (hr' : RepK W' (fun _ => True) t.kids ka) => rtext_any t ka cap W' hsm hc hm hr' (by omega)
    have HX := hide (fun (s : List UInt8) (h : textT t = some s) => text_read (deep := 1000) h (by omega))
    have HL := hide (fun (s : List UInt8) (h : textT t = some s) => text_len2 t s h)
    have HC := hide (clean_size t)
    have hC := fun (W' : World) (hr' : RepK W' (fun _ => True) t.kids ka) => clean_any t ka cap W' (by omega) hc hm hr'
    obtain ⟨o, ho⟩ : ∃ o, textT t = o := ⟨_, rfl⟩
    rw [ho] at hT hR
    simp only [trV, wordRes] at hT hR hZ hZr hC
    go_upto_region 6 with (go_at_call 18; refine hT.mono ?_; rintro e w3 ⟨rfl, hb3⟩)
    replace b1 := b1.below hb3 b1.lt
    replace hr := hr.below hb3
    replace hbw := hbw.trans (hb3.mono hbw.size)
    clear hb3 hT
    obtain ⟨c0, c1, c2, c3, c4⟩ := b1.c5
    replace hR := hR w3 hr
    go_upto_region 7 with (go_at_call 19; refine hR.mono ?_; rintro e w4 ⟨rfl, hb4⟩)
    replace b1 := b1.below hb4 b1.lt
    replace hr := hr.below hb4
    replace hbw := hbw.trans (hb4.mono hbw.size)
    clear hb4 hR hmx
    obtain ⟨c0, c1, c2, c3, c4⟩ := b1.c5
    have hS0 : ∀ c : World, Below w4.heap.size w4 c → (c.cell? ⟨w.heap.size, 0, none⟩ = some (.bool t.l) ∧ c.cell? ⟨w.heap.size, 1, none⟩ = some (.int .i64 t.tk.1) ∧ c.cell? ⟨w.heap.size, 2, none⟩ = some (.string ⟨t.tk.2.1.toArray⟩) ∧ c.cell? ⟨w.heap.size, 3, none⟩ = some (.int .i64 t.tk.2.2) ∧ c.cell? ⟨w.heap.size, 4, none⟩ = some (.slice ka t.kids.length cap) ∧ Below w4.heap.size w4 c) := fun c hb => ⟨ck hb c0, ck hb c1, ck hb c2, ck hb c3, ck hb c4, hb⟩
    go_region_held3 (fun w' => w'.cell? ⟨w.heap.size, 0, none⟩ = some (.bool t.l) ∧ w'.cell? ⟨w.heap.size, 1, none⟩ = some (.int .i64 t.tk.1) ∧ w'.cell? ⟨w.heap.size, 2, none⟩ = some (.string ⟨t.tk.2.1.toArray⟩) ∧ w'.cell? ⟨w.heap.size, 3, none⟩ = some (.int .i64 t.tk.2.2) ∧ w'.cell? ⟨w.heap.size, 4, none⟩ = some (.slice ka t.kids.length cap) ∧ Below w4.heap.size w4 w')
      (exact hS0 _ (by repeat (first | with_reducible exact Below.refl _ _ | with_reducible refine bl_drew ?_ | with_reducible refine bl_call ?_ (by with_reducible assumption) | with_reducible assumption)))
      (first
        | (go_at_call 20; (with_reducible refine (hZ _ (hr.below (by go_split_ands; assumption))).mono ?_); rintro e wN ⟨rfl, hb1⟩)
        | (go_at_call 21; (with_reducible refine (hZr _ (hr.below (by go_split_ands; assumption))).mono ?_); rintro e wM ⟨rfl, hb2⟩))
    have hbM : Below w4.heap.size w4 wM := bl_call (bl_call (bl_drew (Below.refl _ _)) hb1) hb2
    replace b1 := b1.below hbM b1.lt
    replace hr := hr.below hbM
    replace hbw := hbw.trans (hbM.mono hbw.size)
    clear hS0 hbM hb1 hb2
    obtain ⟨c0, c1, c2, c3, c4⟩ := b1.c5
    cases o with
    | none =>
      simp only [Option.getD_none, Option.isSome_none]
      go_wp2_with fail
      refine (show Post (.returned (.bool true)) wM from ?_)
      rw [← HP.out]
      exact ⟨rfl, hbw⟩
    | some s =>
      simp only [Option.getD_some, Option.isSome_some]
      have hl2 := HL.out s ho
      obtain ⟨toks, ts, hx1, hx2, hx3, hx4⟩ := HX.out s ho
      have hsl : s.length ≤ 10000000 := by omega
      have H1 := hide hx1
      have H2 := hide hx2
      have H4 := hide hx4
      have htz : toks.length ≤ 600 := by rw [hx3, HC.out]; exact hsz
      have H3 := hide hx3
      clear HX HL ho hx1 hx2 hx3 hx4 hl2
      go_wp2_with fail
      generalize hcap : grownCap _ s.length 0 5 = capb
      have hle : s.length ≤ capb := by rw [← hcap]; exact grownCap_ge _ _ _ _
      clear hcap kb
      refine (read_conv wM s capb _ hle hsl H1.out).mono ?_
      rintro e w5 ⟨va, vc, rfl, hrow, hb5⟩
      unfold faultAgg
      obtain ⟨W6, hW6⟩ : ∃ W6, w5.alloc (.cells #[.int .i64 0, .int .i64 0] 31) = W6 := ⟨_, rfl⟩
      have hb6 : Below w5.heap.size w5 W6 := by rw [← hW6]; exact (Below.refl _ _).alloc (Nat.le_refl _) _
      have b6 : Blk W6 w5.heap.size 31 #[.int .i64 0, .int .i64 0] := by rw [← hW6]; exact Blk.new _ _ _
      have HW6 := hide hW6
      clear hW6
      go_upto_region 12 with (fail)
      rw [HW6.out]
      clear HW6
      have hb56 := hb5.trans (hb6.mono hb5.size)
      have htk := (hrow.tokIn).keep hb6 hb6.size
      replace b1 := b1.below hb56 b1.lt
      replace hr := hr.below hb56
      replace hbw := hbw.trans (hb56.mono hbw.size)
      clear hrow hb5 hb6 hb56
      generalize w5.heap.size = G5 at b6 ⊢
      have htl : (tokI toks).length = toks.length := by simp [tokI]
      have hRd := tReads_any W6 va vc (tokI toks) 1000 htk (by omega)
      rw [H2.out, htl] at hRd
      clear htl
      go_wp2_with (go_at_call 14; refine hRd.mono ?_)
      intro e w7 h7
      obtain ⟨hb7, v7, rfl, kz, capz, rfl, q1, q2, q3⟩ := h7
      clear hRd htk
      unfold faultAgg
      obtain ⟨W8, hW8⟩ : ∃ W8, w7.alloc (.cells #[.int .i64 0, .int .i64 0] 31) = W8 := ⟨_, rfl⟩
      have hb8 : Below w7.heap.size w7 W8 := by rw [← hW8]; exact (Below.refl _ _).alloc (Nat.le_refl _) _
      have b8 : Blk W8 w7.heap.size 31 #[.int .i64 0, .int .i64 0] := by rw [← hW8]; exact Blk.new _ _ _
      have HW8 := hide hW8
      clear hW8
      go_upto_region 13 with (fail)
      rw [HW8.out]
      clear HW8
      have hb78 := hb7.trans (hb8.mono hb7.size)
      replace b1 := b1.below hb78 b1.lt
      replace b6 := b6.below hb78 b6.lt
      replace hr := hr.below hb78
      replace hbw := hbw.trans (hb78.mono hbw.size)
      have z8 := (q3.any).below hb8
      clear q3 hb7 hb8 hb78
      generalize w7.heap.size = G7 at b8 ⊢
      obtain ⟨c0, c1, c2, c3, c4⟩ := b1.c5
      have x0 := b6.cell 0
      have y0 := b8.cell 0
      simp only [List.getElem?_toArray, List.getElem?_cons_zero] at x0 y0
      clear b6 b8
      have hZc := fun (na : Option Addr) (nc : Nat) (W' : World) (h1 : (cleanT t).kids.length ≤ nc) (h2 : CapOk na nc) (h3 : RepK W' (fun _ => True) (cleanT t).kids na) => size_any (cleanT t) na nc W' h1 h2 h3 (by rw [HC.out]; omega)
      rw [← H3.out] at hZc
      simp only [trV] at hZc
      clear hZ hZr
      go_wp2_with (first
        | (go_at_call 22; refine (hC W8 hr).mono ?_; rintro e wc ⟨na, nc, rfl, n1, n2, n3, hbc⟩; replace b1 := b1.below hbc b1.lt; replace hr := hr.below hbc; replace z8 := z8.below hbc; replace hbw := hbw.trans (hbc.mono hbw.size); clear hbc c0 c1 c2 c3 c4; obtain ⟨c0, c1, c2, c3, c4⟩ := b1.c5)
        | (go_at_call 20; refine (hZc na nc _ n1 n2 n3.any).mono ?_; rintro e wsz ⟨rfl, hbs⟩; clear n1 n2 n3; replace b1 := b1.below hbs b1.lt; replace hr := hr.below hbs; replace z8 := z8.below hbs; replace hbw := hbw.trans (hbs.mono hbw.size); clear hbs c0 c1 c2 c3 c4; obtain ⟨c0, c1, c2, c3, c4⟩ := b1.c5)
        | (go_at_call 22; refine (hC wsz hr).mono ?_; rintro e wd ⟨pa, pc, rfl, n1, n2, n3, hbd⟩; replace z8 := z8.below hbd; replace hbw := hbw.trans (hbd.mono hbw.size)))
      obtain ⟨W9, hW9⟩ : ∃ W9, wd.alloc (.cells #[.bool (cleanT t).l, .int .i64 (cleanT t).tk.1, .string ⟨(cleanT t).tk.2.1.toArray⟩, .int .i64 (cleanT t).tk.2.2, .slice pa (cleanT t).kids.length pc] tT) = W9 := ⟨_, rfl⟩
      have hb9 : Below wd.heap.size wd W9 := by rw [← hW9]; exact (Below.refl _ _).alloc (Nat.le_refl _) _
      have b9 : Blk W9 wd.heap.size tT #[.bool (cleanT t).l, .int .i64 (cleanT t).tk.1, .string ⟨(cleanT t).tk.2.1.toArray⟩, .int .i64 (cleanT t).tk.2.2, .slice pa (cleanT t).kids.length pc] := by rw [← hW9]; exact Blk.new _ _ _
      have r9 : RepK W9 (fun _ => True) [cleanT t] (some ⟨wd.heap.size, 0, none⟩) := by
        refine RepK_of_row ⟨trCells (cleanT t).l (cleanT t).tk (.slice pa (cleanT t).kids.length pc), ?_, fun j u hj => ?_⟩ trivial b9.lt
        · simp only [RepL]
          exact ⟨_, [], by simp, TreeV.rep n1 n2 (n3.any.below hb9), rfl⟩
        · rw [Nat.zero_add, b9.cell j]
          simpa [trCells] using hj
      have hsm9 := same_rows false ts [cleanT t] kz (some ⟨wd.heap.size, 0, none⟩) capz 1 W9 H4.out q1 q2 (z8.below hb9) r9
      rw [hW9]
      simp only [List.length_singleton] at hsm9
      have hbw9 := hbw.trans (hb9.mono hbw.size)
      clear hW9 r9 b9 hb9 z8 n1 n2 n3 hC hZc hr
      go_wp2_with (go_at_call 16; refine hsm9.mono ?_; rintro e wE ⟨rfl, hbE⟩)
      refine (show Post (.returned (.bool true)) wE from ?_)
      rw [← HP.out]
      exact ⟨rfl, hbw9.trans (hbE.mono hbw9.size)⟩
  · have e1 : decide ((300 : Int) < pq) = true := decide_eq_true (by omega)
    clear hbig hpok
    go_wp2_with (go_at_call 17; refine hpart.mono ?_; rintro e w2 ⟨rfl, hb2⟩)
    refine (show Post (.returned (.bool true)) w2 from ?_)
    rw [← HP.out]
    exact ⟨rfl, hbw.trans (hb2.mono hbw.size)⟩
end Go.Proofs.YtajlibegalbbmaaDoor
