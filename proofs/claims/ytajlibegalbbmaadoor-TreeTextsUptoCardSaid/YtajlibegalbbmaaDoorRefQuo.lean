/- The reference's token, one kind of first byte. -/
import Derived.Test.YtajlibegalbbmaaDoorRefTok
import Derived.Test.YtajlibegalbbmaaDoorQuoted
namespace Go.Proofs.YtajlibegalbbmaaDoor
open Go.RowKit
section
variable {w : World} {ta : Option Addr} {cap : Nat} {bs : List UInt8} {p : Nat}

def QRel (w : World) (ta : Option Addr) (bs : List UInt8) (p : Nat) (k : Nat) (x v : Value) (wr : World) : Prop :=
  ∃ (j : Nat) (acc : List UInt8), k = bs.length - j ∧ x = .int .i64 (j : Int) ∧ p + 1 ≤ j ∧ j ≤ bs.length ∧ acc.length ≤ j ∧ quoT (bs.drop j) acc (j - p) = quoT (bs.drop (p + 1)) [] 1 ∧
    Rs w ta bs 9 [] p wr ∧ wr.ownsRow (w.heap.size + 2) 5 1 v acc.length (Lib.byteCells acc)

theorem own_slice {w : World} {base : Nat} {e : TypeId} {size : Nat} {v : Value} {n : Nat} {xs : List Value} (h : w.ownsRow base e size v n xs) : ∃ a c, v = .slice a n c := by
  rcases h.2 with ⟨hv, h0⟩ | ⟨g, c, cur, hv, _⟩
  · exact ⟨none, 0, by rw [hv, h0]⟩
  · exact ⟨_, _, hv⟩

theorem own_string {w : World} {base : Nat} {a : Option Addr} {c : Nat} {acc : List UInt8} (h : w.ownsRow base 5 1 (.slice a acc.length c) acc.length (Lib.byteCells acc)) :
    (convert 24 9 (.slice a acc.length c)).run Tryd.prog w = .ok (.string ⟨acc.toArray⟩) w := by
  have ht : Txt w w.heap.size a acc := by
    intro hn
    rcases h.2 with ⟨_, h0⟩ | ⟨g, c', cur, hv, hb, hg, hle, hmx, hsz, htk⟩
    · omega
    · injection hv with hv
      subst hv
      refine ⟨g, 0, rfl, (Array.getElem?_eq_some_iff.1 hg).1, fun i hi => ?_⟩
      have := h.cells (g := g) rfl i (.int .u8 (acc[i].toNat : Int)) (by simp [Lib.byteCells, List.getElem?_eq_getElem hi])
      have e : (⟨g, 0, none⟩ : Addr).add i = ⟨g, 0 + i, none⟩ := by unfold Addr.add; split <;> simp_all
      rw [e] at this
      exact this
  have := txt_cut ht (p := 0) (q := acc.length) (cap := acc.length + 1) (by omega) (by omega) (by omega) c
  have e : cutA a (acc.length + 1) 0 = a := by
    unfold cutA
    rw [if_neg (by omega)]
    cases a <;> simp [Addr.add]
  rw [e] at this
  simpa using this

theorem quo_step {c : UInt8} {r acc : List UInt8} {n : Nat} (hq : quoteB c = false) (ht : textB c = true) : quoT (c :: r) acc n = quoT r (acc ++ [c]) (n + 1) := by
  cases r <;> simp [quoT, hq, ht]
theorem quo_stop {c : UInt8} {r acc : List UInt8} {n : Nat} (ht : textB c = false) : quoT (c :: r) acc n = .error n := by
  have hq : quoteB c = false := by
    cases h : quoteB c
    · rfl
    · have : c.toNat = 34 := by simpa [quoteB] using h
      simp [textB, this] at ht
  cases r <;> simp [quoT, hq, ht]

theorem new_cells1 (W : World) (t : TypeId) (v : Value) : ∀ j u, [v][j]? = some u → (W.alloc (.cells #[v] t)).cell? ((⟨W.heap.size, 0, none⟩ : Addr).add j) = some u := by
  intro j u hj
  match j, hj with
  | 0, hj =>
    simp at hj
    subst hj
    simp [Addr.add]
theorem grown_alloc {w w' : World} {o : Obj} {row : Option Nat} (h : (w.alloc o).grownBy w' row) : w.grownBy w' row :=
  ⟨h.os, h.tape, h.output, Nat.le_trans (by simp) h.size, fun i hi hne => (h.block i (by simp; omega) hne).trans (Below.heap_alloc w o i hi)⟩

theorem Rs.put {w : World} {ta : Option Addr} {bs : List UInt8} {k : Int} {t : List UInt8} {p : Nat} {W w2 : World} {v : Value} (s : Rs w ta bs k t p W) (hg : W.grownBy w2 v.ownBlock) (hv : ∀ g, v.ownBlock = some g → w.heap.size + 2 ≤ g) : Rs w ta bs k t p w2 := by
  have hne : ∀ i, i < w.heap.size + 2 → some i ≠ v.ownBlock := fun i hi e => by have := hv i e.symm; omega
  have hlt := s.b7.lt
  exact ⟨s.txt.keep fun i hi => hg.block i (by omega) (hne i (by omega)), s.bel.grown hg (by omega) (fun g hk => by have := hv g hk; omega), s.b4.grown hg (hne _ (by omega)), s.b7.grown hg (hne _ (by omega))⟩

set_option maxRecDepth 100000 in
set_option maxHeartbeats 3200000 in
theorem rtok_quo (ht : Txt w w.heap.size ta bs) (_hfit : bs.length ≤ cap) (hmax : bs.length ≤ 140737488351232) (hp : p < bs.length) (hc : bs[p].toNat = 34) :
    Calls Tryd.prog 38 #[.slice ta bs.length cap, .int .i64 (p : Int)] w (RTokPost w p (quoT (bs.drop (p + 1)) [] 1)) := by
  generalize hP : RTokPost w p (quoT (bs.drop (p + 1)) [] 1) = Post
  have HP := hide hP
  clear hP
  obtain ⟨b, off, rfl, hbR, hb⟩ := ht.byte hp
  generalize bs[p] = c at hb hc
  have e34 : ((c.toNat : Int) == 34) = true := by simp [hc]
  have hdg : digitB c = false := by simp [digitB, hc]
  have n40 : ((c.toNat : Int) == 40) = false := by simp; omega
  have n41 : ((c.toNat : Int) == 41) = false := by simp; omega
  have n35 : ((c.toNat : Int) == 35) = false := by simp; omega
  clear hc
  obtain ⟨i0, hi0, hz0, hz1, hz2⟩ := info_parts infoByte
  go_enter Tryd.func38, Tryd.ntmps38
  go_wp2_with (go_at_call 58; refine (rdigit_any _ _).mono ?_; rintro e w' ⟨rfl, rfl⟩)
  have s0 : Rs w (some ⟨b, off, none⟩) bs 9 [] p ((w.alloc (.cells zeroTok 23)).alloc (.cells #[.int .i64 9, .string ⟨#[]⟩, .int .i64 (p : Int)] 23)) := Rs.start ht 9 [] p
  have hsz : ((w.alloc (.cells zeroTok 23)).alloc (.cells #[.int .i64 9, .string ⟨#[]⟩, .int .i64 (p : Int)] 23)).heap.size = w.heap.size + 1 + 1 := by simp
  have o0 := World.ownsRow_made (e := 5) (size := 1) (base := w.heap.size + 2) ((w.alloc (.cells zeroTok 23)).alloc (.cells #[.int .i64 9, .string ⟨#[]⟩, .int .i64 (p : Int)] 23)) #[] 0 (by rw [hsz]; omega) (Nat.zero_le _) rfl
  rw [hsz] at o0
  have s1 := s0.below ((Below.refl _ _).alloc (Nat.le_refl _) (.cells #[] 5))
  clear s0 hsz
  generalize hW : ((w.alloc (.cells zeroTok 23)).alloc (.cells #[.int .i64 9, .string ⟨#[]⟩, .int .i64 (p : Int)] 23)).alloc (.cells #[] 5) = W1 at s1 o0 ⊢
  clear hW
  go_loopg [9, 11] (bs.length - (p + 1)) (fun k x v wr => QRel w (some ⟨b, off, none⟩) bs p k x v wr)
  case atStart => exact ⟨p + 1, [], rfl, by go_num, Nat.le_refl _, by omega, by simp, by rw [show p + 1 - p = 1 by omega], s1, o0⟩
  case round =>
    obtain ⟨j, acc, hk, rfl, hpj, hjl, hac, hx, s, hown⟩ := hrel
    have HK := hide hk
    have HX := hide hx
    clear hk hx s1 o0 hb
    obtain ⟨va, vc, rfl⟩ := own_slice hown
    obtain ⟨⟨a0, a1, a2, af⟩, c0, c1, c2, cf⟩ := s.facts
    rcases Nat.lt_or_ge j bs.length with hlt | hge
    · obtain ⟨b', off', hbe, _, hb'⟩ := s.txt.byte hlt
      injection hbe with hbe
      injection hbe with hbe hoe
      subst hbe hoe
      have hD := drop_at hlt
      generalize bs[j] = c' at hb' hD
      have HD := hide hD
      clear hD
      cases htx : textB c'
      · go_wp2_with (go_at_call 61; refine (rplain_any _ _).mono ?_; rintro e w' ⟨rfl, rfl⟩)
        refine bodyPost_ret (v := .tuple #[tokV 9 ([]) p, .int .i64 0, .int .i64 (j : Int)]) (by simp [results, Tryd.results38, tokV, go_sem, a0, a1, a2]) rfl ?_
        rw [← HP.out]
        exact rpost_err (o := j - p) (by rw [← HX.out, HD.out, quo_stop htx]) (by omega) (s.done _ _ _)
      · by_cases h34 : c'.toNat = 34
        · have e1 : ((c'.toNat : Int) == 34) = true := by simp [h34]
          have hqc : quoteB c' = true := by simp [quoteB, h34]
          have HQ := hide hqc
          clear h34 hqc
          rcases Nat.lt_or_ge (j + 1) bs.length with hlt1 | hge1
          · have e2 : ((j : Int) + 1 == (bs.length : Int)) = false := by simp; omega
            obtain ⟨b', off', hbe, _, hb1⟩ := s.txt.byte hlt1
            injection hbe with hbe
            injection hbe with hbe hoe
            subst hbe hoe
            have hD1 := drop_at hlt1
            generalize bs[j + 1] = d at hb1 hD1
            have HD1 := hide hD1
            clear hD1
            by_cases d34 : d.toNat = 34
            · have e3 : ((d.toNat : Int) != 34) = false := by simp [d34]
              have hqd : quoteB d = true := by simp [quoteB, d34]
              have hdv : d = 34 := UInt8.toNat.inj d34
              have HQD := hide hqd
              have HDV := hide hdv
              clear d34 hqd hdv
              go_wp2_with (first | (at_builtin; refine wpList_append_own _ rfl _ _ 24 rfl (w.heap.size + 2) 5 i0 (.int .u8 0) 1 1 Tryd.underlying24 hi0 hz0 hz1 hz2 rfl (by decide) _ _ _ rfl (hown.alloc _) ⟨wr.heap.size, 0, none⟩ 1 1 [.int .u8 (d.toNat : Int)] rfl rfl ?c1 ?c2 ?c3 ?c4 ?c5 ?_) | (go_at_call 61; refine (rplain_any _ _).mono ?_; rintro e w' ⟨rfl, rfl⟩))
              case c1 => exact new_cells1 _ _ _
              case c2 => intro u hu; simp at hu; subst hu; rfl
              case c3 => unfold maxLen; omega
              case c4 => omega
              case c5 => have := s.b7.lt; simp; omega
              intro v' w2 hown' hgrow _
              have hk := HK.out
              have s2 := s.put (grown_alloc hgrow) (fun g hg => (hown.lt g hg).1)
              go_wp2_with fail
              go_roundg (bs.length - (j + 2))
              case measure => omega
              case rel =>
                refine ⟨j + 2, acc ++ [34], rfl, by go_num, by omega, by omega, by simp; omega, ?_, s2, ?_⟩
                · rw [← HX.out, HD.out, HD1.out, quo_two HQ.out HQD.out]
                  congr 1
                  omega
                · have e : Lib.byteCells (acc ++ [34]) = Lib.byteCells acc ++ [.int .u8 (d.toNat : Int)] := by rw [HDV.out]; simp [Lib.byteCells]
                  rw [e]
                  simpa using hown'
            · have e3 : ((d.toNat : Int) != 34) = true := by simp; omega
              have hqd : quoteB d = false := by simp [quoteB, d34]
              have HQD := hide hqd
              clear d34 hqd
              have hcv := own_string hown
              have s' := s.text acc
              go_wp2_with (go_at_call 61; refine (rplain_any _ _).mono ?_; rintro e w' ⟨rfl, rfl⟩)
              refine bodyPost_ret (v := .tuple #[tokV 9 (acc) p, .int .i64 ((j + 1 : Nat) : Int), .int .i64 (-1)]) (by simp [results, Tryd.results38, tokV, go_sem, a0, a1, a2]) rfl ?_
              rw [← HP.out]
              exact rpost_ok (n := j - p + 1) (by rw [← HX.out, HD.out, quo_end HQ.out (by rw [HD1.out]; simp [isAt, HQD.out])]) (by omega) (s'.done _ _ _)
          · have e2 : ((j : Int) + 1 == (bs.length : Int)) = true := by simp; omega
            have hcv := own_string hown
            have s' := s.text acc
            go_wp2_with (go_at_call 61; refine (rplain_any _ _).mono ?_; rintro e w' ⟨rfl, rfl⟩)
            refine bodyPost_ret (v := .tuple #[tokV 9 (acc) p, .int .i64 ((j + 1 : Nat) : Int), .int .i64 (-1)]) (by simp [results, Tryd.results38, tokV, go_sem, a0, a1, a2]) rfl ?_
            rw [← HP.out]
            exact rpost_ok (n := j - p + 1) (by rw [← HX.out, HD.out, quo_end HQ.out (by rw [List.drop_of_length_le (by omega)]; rfl)]) (by omega) (s'.done _ _ _)
        · have e1 : ((c'.toNat : Int) == 34) = false := by simp; omega
          have hqc : quoteB c' = false := by simp [quoteB, h34]
          have HQ := hide hqc
          clear h34 hqc
          go_wp2_with (first | (at_builtin; refine wpList_append_own _ rfl _ _ 24 rfl (w.heap.size + 2) 5 i0 (.int .u8 0) 1 1 Tryd.underlying24 hi0 hz0 hz1 hz2 rfl (by decide) _ _ _ rfl (hown.alloc _) ⟨wr.heap.size, 0, none⟩ 1 1 [.int .u8 (c'.toNat : Int)] rfl rfl ?d1 ?d2 ?d3 ?d4 ?d5 ?_) | (go_at_call 61; refine (rplain_any _ _).mono ?_; rintro e w' ⟨rfl, rfl⟩))
          case d1 => exact new_cells1 _ _ _
          case d2 => intro u hu; simp at hu; subst hu; rfl
          case d3 => unfold maxLen; omega
          case d4 => omega
          case d5 => have := s.b7.lt; simp; omega
          intro v' w2 hown' hgrow _
          have hk := HK.out
          have s2 := s.put (grown_alloc hgrow) (fun g hg => (hown.lt g hg).1)
          go_wp2_with fail
          go_roundg (bs.length - (j + 1))
          case measure => omega
          case rel =>
            refine ⟨j + 1, acc ++ [c'], rfl, by go_num, by omega, by omega, by simp; omega, ?_, s2, ?_⟩
            · rw [← HX.out, HD.out, quo_step HQ.out htx]
              congr 1
              omega
            · have e : Lib.byteCells (acc ++ [c']) = Lib.byteCells acc ++ [.int .u8 (c'.toNat : Int)] := by simp [Lib.byteCells]
              rw [e]
              simpa using hown'
    · go_wp2_with fail
      refine bodyPost_ret (v := .tuple #[tokV 9 ([]) p, .int .i64 0, .int .i64 (j : Int)]) (by simp [results, Tryd.results38, tokV, go_sem, a0, a1, a2]) rfl ?_
      rw [← HP.out]
      exact rpost_err (o := j - p) (by rw [← HX.out, List.drop_of_length_le hge]; rfl) (by omega) (s.done _ _ _)
end
end Go.Proofs.YtajlibegalbbmaaDoor
