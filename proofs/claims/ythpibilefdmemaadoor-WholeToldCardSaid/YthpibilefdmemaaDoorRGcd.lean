/- collatorref01.Gcd: by its contract. -/
import Derived.Test.YthpibilefdmemaaDoorRDiv
namespace Go.Proofs.YthpibilefdmemaaDoor
open Go.RowKit

/-- Two numbers in boxes, the result's block. -/
structure GcW (w : World) (n1 : Bool) (a1 : Option Addr) (l1 k1 : Nat) (n2 : Bool) (a2 : Option Addr) (l2 k2 : Nat) (A B : Nat) (c : World) : Prop where
  bx : Blk c w.heap.size 30 #[.bool n1, .slice a1 l1 k1]
  by_ : Blk c (w.heap.size + 1) 30 #[.bool n2, .slice a2 l2 k2]
  bz : Blk c (w.heap.size + 1 + 1) 30 #[.bool false, .slice none 0 0]
  vx : NumV c (.agg #[.bool n1, .slice a1 l1 k1]) (A : Int)
  vy : NumV c (.agg #[.bool n2, .slice a2 l2 k2]) (B : Int)
  bel : Below w.heap.size w c
section
variable {w c c' : World} {n1 n2 n3 : Bool} {a1 a2 a3 : Option Addr} {l1 l2 l3 k1 k2 k3 A B C : Nat}
theorem GcW.keep (h : GcW w n1 a1 l1 k1 n2 a2 l2 k2 A B c) (hb : Below c.heap.size c c') : GcW w n1 a1 l1 k1 n2 a2 l2 k2 A B c' :=
  ⟨h.bx.below hb h.bx.lt, h.by_.below hb h.by_.lt, h.bz.below hb h.bz.lt, h.vx.below hb (Nat.le_refl _), h.vy.below hb (Nat.le_refl _), h.bel.trans (hb.mono h.bel.size)⟩
theorem GcW.swap (h : GcW w n1 a1 l1 k1 n2 a2 l2 k2 A B c) (hr : NumV c (.agg #[.bool n3, .slice a3 l3 k3]) (C : Int)) :
    GcW w n2 a2 l2 k2 n3 a3 l3 k3 B C ((((c.setCell ⟨w.heap.size, 0, none⟩ (.bool n2)).setCell ⟨w.heap.size, 1, none⟩ (.slice a2 l2 k2)).setCell ⟨w.heap.size + 1, 0, none⟩ (.bool n3)).setCell ⟨w.heap.size + 1, 1, none⟩ (.slice a3 l3 k3)) := by
  have hy1 := (h.by_.far (p := ⟨w.heap.size, 0, none⟩) (by simp) (.bool n2)).far (p := ⟨w.heap.size, 1, none⟩) (by simp) (.slice a2 l2 k2)
  exact ⟨((h.bx.two (.bool n2) (.slice a2 l2 k2)).far (by simp) _).far (by simp) _, hy1.two _ _, (((h.bz.far (by simp; omega) _).far (by simp; omega) _).far (by simp) _).far (by simp) _, (h.vy.store h.bx _ _).store hy1 _ _, (hr.store h.bx _ _).store hy1 _ _, (((h.bel.setCell (Nat.le_refl _) _).setCell (Nat.le_refl _) _).setCell (by simp) _).setCell (by simp) _⟩
theorem GcW.drew (h : GcW w n1 a1 l1 k1 n2 a2 l2 k2 A B c) : GcW w n1 a1 l1 k1 n2 a2 l2 k2 A B c.drew := ⟨h.bx, h.by_, h.bz, h.vx, h.vy, h.bel.drew⟩
end

set_option maxRecDepth 100000 in
set_option maxHeartbeats 3200000 in
theorem RGcd_any {x y : Int} {u v : Value} (w : World) (hx : NumV w u x) (hy : NumV w v y) (hn : Dm x) (hm : Dm y) :
    Calls Tryd.prog 32 #[u, v] w (NumPost w ((Nat.gcd x.natAbs y.natAbs : Nat) : Int)) := by
  generalize hP : NumPost w ((Nat.gcd x.natAbs y.natAbs : Nat) : Int) = Post
  have HP := hide hP
  clear hP
  obtain ⟨a, ca, rfl, ha, hda⟩ := hx
  obtain ⟨b, cb, rfl, hb, hdb⟩ := hy
  have sX : Dm (x.natAbs : Int) := by unfold Dm dlen at *; simpa using hn
  have sY : Dm (y.natAbs : Int) := by unfold Dm dlen at *; simpa using hm
  unfold Dm dlen at hn hm
  generalize decide (x < 0) = nx at *
  generalize decide (y < 0) = ny at *
  obtain ⟨W, hW⟩ : ∃ W, ((w.alloc (.cells #[.bool nx, .slice a (dg 10 x.natAbs).length ca] 30)).alloc (.cells #[.bool ny, .slice b (dg 10 y.natAbs).length cb] 30)).alloc (.cells #[.bool false, .slice none 0 0] 30) = W := ⟨_, rfl⟩
  have hZ : Blk W w.heap.size 30 #[.bool nx, .slice a (dg 10 x.natAbs).length ca] := by rw [← hW]; exact ((Blk.new w _ _).alloc _).alloc _
  have hZ2 : Blk W (w.heap.size + 1) 30 #[.bool ny, .slice b (dg 10 y.natAbs).length cb] := by rw [← hW]; exact (Blk.new_at _ _ _ (by simp)).alloc _
  have hZ3 : Blk W (w.heap.size + 1 + 1) 30 #[.bool false, .slice none 0 0] := by rw [← hW]; exact Blk.new_at _ _ _ (by simp)
  have hB : Below w.heap.size w W := by rw [← hW]; exact (((Below.refl _ _).alloc (Nat.le_refl _) _).alloc (by simp) _).alloc (by simp; omega) _
  obtain ⟨c0, c1, -⟩ := hZ.c2
  have HW := hide hW
  clear hW
  go_enter Tryd.func32, Tryd.ntmps32
  go_upto_region 1 with (fail)
  rw [HW.out]
  clear HW
  go_wp2_with fail
  refine (make1_can false a ca x.natAbs W (hda.below hB (Nat.le_refl _)) ha (by omega)).mono ?_
  rintro e w1 ⟨r1, rfl, h1, hb1⟩
  obtain ⟨n1, a1, l1, k1, rfl⟩ := h1.parts
  have hX1 := hZ.below hb1 hZ.lt
  have hY1 := hZ2.below hb1 hZ2.lt
  have hR1 := hZ3.below hb1 hZ3.lt
  have hB1 : Below w.heap.size w w1 := hB.trans (hb1.mono hB.size)
  have hV1 := h1.store hX1 (.bool n1) (.slice a1 l1 k1)
  clear hZ hZ2 hZ3 hB hb1 c0 c1 h1
  obtain ⟨p0, p1, pf⟩ := hX1.c2
  have pf0 := pf 0
  have pf1 := pf 1
  have hX2 := hX1.two (.bool n1) (.slice a1 l1 k1)
  have hY2 := (hY1.far (p := ⟨w.heap.size, 0, none⟩) (by simp) (.bool n1)).far (p := ⟨w.heap.size, 1, none⟩) (by simp) (.slice a1 l1 k1)
  have hR2 := (hR1.far (p := ⟨w.heap.size, 0, none⟩) (by simp; omega) (.bool n1)).far (p := ⟨w.heap.size, 1, none⟩) (by simp; omega) (.slice a1 l1 k1)
  have hB2 := (hB1.setCell (p := ⟨w.heap.size, 0, none⟩) (Nat.le_refl _) (.bool n1)).setCell (p := ⟨w.heap.size, 1, none⟩) (Nat.le_refl _) (.slice a1 l1 k1)
  go_upto_region 2 with (fail)
  generalize (w1.setCell ⟨w.heap.size, 0, none⟩ (.bool n1)).setCell ⟨w.heap.size, 1, none⟩ (.slice a1 l1 k1) = w2 at hX2 hY2 hR2 hB2 hV1 ⊢
  clear p0 p1 pf pf0 pf1 hX1 hY1 hR1 hB1
  obtain ⟨d0, d1, df⟩ := hY2.c2
  go_wp2_with fail
  refine (make1_can false b cb y.natAbs w2 (hdb.below hB2 (Nat.le_refl _)) hb (by omega)).mono ?_
  rintro e w3 ⟨r3, rfl, h3, hb3⟩
  obtain ⟨n2, a2, l2, k2, rfl⟩ := h3.parts
  have hX3 := hX2.below hb3 hX2.lt
  have hY3 := hY2.below hb3 hY2.lt
  have hR3 := hR2.below hb3 hR2.lt
  have hV3 := hV1.below hb3 (Nat.le_refl _)
  have hB3 : Below w.heap.size w w3 := hB2.trans (hb3.mono hB2.size)
  have s0 : GcW w n1 a1 l1 k1 n2 a2 l2 k2 x.natAbs y.natAbs ((w3.setCell ⟨w.heap.size + 1, 0, none⟩ (.bool n2)).setCell ⟨w.heap.size + 1, 1, none⟩ (.slice a2 l2 k2)) :=
    ⟨(hX3.far (by simp) _).far (by simp) _, hY3.two _ _, (hR3.far (by simp) _).far (by simp) _, hV3.store hY3 _ _, h3.store hY3 _ _, (hB3.setCell (by simp) _).setCell (by simp) _⟩
  obtain ⟨q0, q1, qf⟩ := hY3.c2
  have qf0 := qf 0
  have qf1 := qf 1
  clear hX2 hY2 hR2 hB2 hV1 d0 d1 df hb3
  go_upto_region 3 with (fail)
  generalize (w3.setCell ⟨w.heap.size + 1, 0, none⟩ (.bool n2)).setCell ⟨w.heap.size + 1, 1, none⟩ (.slice a2 l2 k2) = w4 at s0 ⊢
  clear q0 q1 qf qf0 qf1 hX3 hY3 hR3 hV3 hB3 h3
  go_loopg [5] y.natAbs (fun r _ wr => ∃ (n1 : Bool) (a1 : Option Addr) (l1 k1 : Nat) (n2 : Bool) (a2 : Option Addr) (l2 k2 : Nat) (A B : Nat), B = r ∧ Dm (A : Int) ∧ Dm (B : Int) ∧ Hid (Nat.gcd A B = Nat.gcd x.natAbs y.natAbs) ∧ GcW w n1 a1 l1 k1 n2 a2 l2 k2 A B wr)
  case atStart => exact ⟨_, _, _, _, _, _, _, _, _, _, rfl, sX, sY, hide rfl, s0⟩
  case round =>
    obtain ⟨n5, s5, l5, k5, n6, s6, l6, k6, A, B, hBr, hA, hBm, HGG, s⟩ := hrel
    have HBR := hide hBr
    clear hBr s0
    have hl : l6 = (dg 10 B).length := by
      obtain ⟨a', c', e, -, -⟩ := s.vy
      injection e with e
      rw [Int.natAbs_natCast] at e
      simp at e
      exact e.2.2.1
    have HL := hide hl
    obtain ⟨p0, p1, -⟩ := s.bx.c2
    obtain ⟨q0, q1, -⟩ := s.by_.c2
    rcases Nat.eq_zero_or_pos B with h0 | h0
    · obtain rfl : l6 = 0 := by rw [hl, h0]; rfl
      obtain ⟨z0, z1, zf⟩ := s.bz.c2
      have zf0 := zf 0
      have zf1 := zf 1
      obtain ⟨e0, e1, -⟩ := (s.bz.two (.bool n5) (.slice s5 l5 k5)).c2
      have hI := s.vx.store s.bz (.bool n5) (.slice s5 l5 k5)
      have hBl := (s.bel.setCell (p := ⟨w.heap.size + 1 + 1, 0, none⟩) (by simp; omega) (.bool n5)).setCell (p := ⟨w.heap.size + 1 + 1, 1, none⟩) (by simp; omega) (.slice s5 l5 k5)
      have HZ := hide h0
      clear hl h0 s
      go_wp2_with fail
      refine bodyPost_ret (v := .agg #[.bool n5, .slice s5 l5 k5]) (by simp [results, Tryd.results32, go_sem, e0, e1]) rfl ?_
      rw [← HP.out, ← HGG.out, HZ.out, Nat.gcd_zero_right]
      exact ⟨_, rfl, hI, hBl⟩
    · have hlp : 0 < l6 := by
        rw [hl]
        rcases Nat.eq_zero_or_pos (dg 10 B).length with h | h
        · have := (dg_eq_nil T2).1 (List.length_eq_zero_iff.1 h); omega
        · exact h
      clear hl
      have hlpd : decide (0 < l6) = true := decide_eq_true hlp
      go_wp2_with fail
      refine (RDiv_any _ s.vx s.vy hA hBm).mono ?_
      rintro e w2 ⟨qq, rr, rfl, hq, hr, hb2⟩
      obtain ⟨qn, qs, ql, qk, rfl⟩ := hq.parts
      obtain ⟨rn, rs, rl, rk, rfl⟩ := hr.parts
      have er : (if (B : Int) = 0 then (0 : Int) else (A : Int) % (B : Int)) = ((A % B : Nat) : Int) := by rw [if_neg (by omega), Int.natCast_emod]
      rw [er] at hr
      clear hq er
      have hsr : Dm ((A % B : Nat) : Int) := by
        unfold Dm dlen at hBm ⊢
        rw [Int.natAbs_natCast] at hBm ⊢
        exact Nat.le_trans (dg_len_mono T2 (Nat.le_of_lt (Nat.mod_lt _ h0))) hBm
      have s2 := s.keep hb2
      have hW3 := (((Below.refl _ w2).alloc (Nat.le_refl _) (.cells #[.bool qn, .slice qs ql qk] 30)).alloc (by simp) (.cells #[.bool rn, .slice rs rl rk] 30))
      have hB8 : Blk ((w2.alloc (.cells #[.bool qn, .slice qs ql qk] 30)).alloc (.cells #[.bool rn, .slice rs rl rk] 30)) (w2.heap.size + 1) 30 #[.bool rn, .slice rs rl rk] := Blk.new_at _ _ _ (World.size_alloc _ _).symm
      have s3 := s2.keep hW3
      have hr3 := hr.below hW3 (Nat.le_refl _)
      have n8 : w.heap.size + 1 + 1 < w2.heap.size + 1 := by have := s2.bz.lt; omega
      clear p0 p1 q0 q1 s s2 hb2 hr hW3
      go_upto_region 5 with (fail)
      generalize (w2.alloc (.cells #[.bool qn, .slice qs ql qk] 30)).alloc (.cells #[.bool rn, .slice rs rl rk] 30) = W3 at hB8 s3 hr3 ⊢
      generalize w2.heap.size + 1 = G8 at *
      obtain ⟨p0, p1, pf⟩ := s3.bx.c2
      obtain ⟨q0, q1, qf⟩ := s3.by_.c2
      obtain ⟨r0, r1, -⟩ := hB8.c2
      have pf0 := pf 0
      have pf1 := pf 1
      have qf0 := qf 0
      have qf1 := qf 1
      have n1 : w.heap.size ≠ G8 := by omega
      have n2 : w.heap.size + 1 ≠ G8 := by omega
      have n3 := n1.symm
      have n4 := n2.symm
      have s4 := s3.swap hr3
      have HLT := hide (Nat.mod_lt A h0)
      clear pf qf hlp hlpd h0 n8
      go_region
      all_goals
        go_wp2_with fail
        go_roundg (A % B)
        case measure => have h1 := HBR.out; have h2 := HLT.out; omega
        case rel => exact ⟨_, _, _, _, _, _, _, _, B, A % B, rfl, hBm, hsr, hide (by rw [← HGG.out, Nat.gcd_comm B, ← Nat.gcd_rec, Nat.gcd_comm]), s4.drew⟩
end Go.Proofs.YthpibilefdmemaaDoor
