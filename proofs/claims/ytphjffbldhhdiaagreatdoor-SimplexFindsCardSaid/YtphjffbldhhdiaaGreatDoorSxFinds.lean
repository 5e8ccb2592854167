/- The walk of the law SimplexFinds. -/
import Derived.Test.YtphjffbldhhdiaaGreatDoorSxTight
namespace Go.Proofs.YtphjffbldhhdiaaGreatDoor
open Go.RowKit

set_option maxRecDepth 100000 in
set_option maxHeartbeats 12800000 in
theorem finds_walk (av : Option Addr) (cv : Nat) (vs : List RFr) (a : Option Addr) (cap : Nat) (rs : List RRow) (w : World) (hvf : Fit av vs.length cv) (hv : ListAt w av vs) (hx : RowsAt w a rs) (ht : Tab w) :
    Calls Tryz.prog 4 #[.slice av vs.length cv, .slice a rs.length cap] w fun e w' => e = .returned (.bool true) ∧ Below w.heap.size w w' := by
  have HX := hide hx
  have HT := hide ht
  have HV := hide hv
  have HVF := hide hvf
  clear hx ht hv hvf
  go_enter Tryz.func4, Tryz.ntmps4
  go_wp2_with fail
  refine (spx_any w HT.out).mono ?_
  rintro e w1 ⟨rfl, hb1⟩
  have hx1 := HX.out.below hb1 (Nat.le_refl _)
  rcases Nat.lt_or_ge 6 vs.length with h6 | h6
  · have e1 : decide (6 < (vs.length : Int)) = true := decide_eq_true (by omega)
    go_wp2_with fail
    go_ret
    exact ⟨rfl, hb1⟩
  · have e1 : decide (6 < (vs.length : Int)) = false := decide_eq_false (by omega)
    have e2 : ¬6 < (vs.length : Int) := by omega
    go_wp2_with fail
    refine (great_any (vs.length : Int) a cap rs w1 hx1).mono ?_
    rintro e w2 ⟨hb2, g, rfl, hg⟩
    have sb2 := hb1.trans (hb2.mono hb1.size)
    cases g with
    | true =>
      go_wp2_with fail
      go_ret
      exact ⟨rfl, sb2⟩
    | false =>
      obtain ⟨-, h16, hrs⟩ := hg rfl
      have HRS := hide hrs
      have hx2 := hx1.below hb2 (Nat.le_refl _)
      clear hg hrs hx1 hb1 hb2
      rcases Nat.lt_or_ge 10 rs.length with h10 | h10
      · have e3 : decide (10 < (rs.length : Int)) = true := decide_eq_true (by omega)
        go_wp2_with fail
        go_ret
        exact ⟨rfl, sb2⟩
      · have e3 : decide (10 < (rs.length : Int)) = false := decide_eq_false (by omega)
        have e4 : ¬10 < (rs.length : Int) := by omega
        obtain ⟨v2, hv2⟩ : ∃ v2, w2.alloc (.cells #[.slice av vs.length cv, .bool false, .slice none 0 0, .bool false, .slice none 0 0] 43) = v2 := ⟨_, rfl⟩
        obtain ⟨gV, hgV⟩ : ∃ g, w2.heap.size = g := ⟨_, rfl⟩
        have bV : Blk v2 gV 43 #[.slice av vs.length cv, .bool false, .slice none 0 0, .bool false, .slice none 0 0] := by rw [← hv2, ← hgV]; exact Blk.new _ _ _
        have sV : Below w2.heap.size w2 v2 := by rw [← hv2]; exact (Below.refl _ _).alloc (Nat.le_refl _) _
        have sb3 := sb2.trans (sV.mono sb2.size)
        have hx3 := hx2.below sV (Nat.le_refl _)
        have hG : Calls Tryz.prog 7 #[.int .i64 (vs.length : Int), .slice (some ⟨gV, 0, none⟩) 1 1] v2 (GreatPost v2 (vs.length : Int) [⟨av, cv, vs, zeroR⟩]) := great_any (vs.length : Int) (some ⟨gV, 0, none⟩) 1 [⟨av, cv, vs, zeroR⟩] v2 (one_row bV HVF.out (HV.out.below sb3 (Nat.le_refl _)))
        have HG := hide hG
        have HV2 := hide hv2
        have HGV := hide hgV
        clear hG hv2 hgV bV sV hx2
        go_wp2_with fail
        rw [HV2.out, HGV.out]
        clear HV2 HGV
        refine HG.out.mono ?_
        rintro e w3 ⟨hb3, g, rfl, hg⟩
        have sb4 := sb3.trans (hb3.mono sb3.size)
        have hx4 := hx3.below hb3 (Nat.le_refl _)
        clear HG hx3
        cases g with
        | true =>
          go_wp2_with fail
          go_ret
          exact ⟨rfl, sb4⟩
        | false =>
          obtain ⟨-, -, hvs⟩ := hg rfl
          have HVS := hide (hvs _ (List.mem_singleton.2 rfl))
          clear hg hvs
          go_wp2_with fail
          refine (rows_any a cap rs w3 hx4 (by omega)).mono ?_
          rintro e w4 ⟨hb4, gL, kL, hgL, rfl, hxL⟩
          have sb5 := sb4.trans (hb4.mono sb4.size)
          have hsz : ∀ r ∈ rs, r.sz 1000000000 := fun r hr => by
            have h := (HRS.out r hr).2
            exact ⟨⟨Nat.le_trans h.1.1 (by decide), Nat.le_trans h.1.2 (by decide)⟩, fun R hR => ⟨Nat.le_trans (h.2 R hR).1 (by decide), Nat.le_trans (h.2 R hR).2 (by decide)⟩⟩
          have hxl : ∀ r ∈ rs, r.xs.length ≤ 1000000 := fun r hr => Nat.le_trans (HRS.out r hr).1 (by decide)
          clear hx4 hb3 hb4 hgL
          cases hok : rightRows (vs.length : Int) rs with
          | false =>
            have HR := hide (rright_any (vs.length : Int) (some ⟨gL, 0, none⟩) kL rs w4 hxL hsz (by omega) hxl hok)
            clear hok hsz hxl
            go_wp2_with fail
            refine HR.out.mono ?_
            rintro e w5 ⟨rfl, hb5⟩
            have sb6 := sb5.trans (hb5.mono sb5.size)
            go_wp2_with fail
            go_ret
            exact ⟨rfl, sb6⟩
          | true =>
            have HR := hide (rright_any (vs.length : Int) (some ⟨gL, 0, none⟩) kL rs w4 hxL hsz (by omega) hxl hok)
            have HOK := hide hok
            clear hok hsz hxl
            go_wp2_with fail
            refine HR.out.mono ?_
            rintro e w5 ⟨rfl, hb5⟩
            have sb6 := sb5.trans (hb5.mono sb5.size)
            obtain ⟨v5, hv5⟩ : ∃ v5, w5.alloc (.cells #[.slice av vs.length cv, .bool false, .slice none 0 0, .bool false, .slice none 0 0] 44) = v5 := ⟨_, rfl⟩
            obtain ⟨gU, hgU⟩ : ∃ g, w5.heap.size = g := ⟨_, rfl⟩
            have bU : Blk v5 gU 44 #[.slice av vs.length cv, .bool false, .slice none 0 0, .bool false, .slice none 0 0] := by rw [← hv5, ← hgU]; exact Blk.new _ _ _
            have sU : Below w5.heap.size w5 v5 := by rw [← hv5]; exact (Below.refl _ _).alloc (Nat.le_refl _) _
            have sb7 := sb6.trans (sU.mono sb6.size)
            have hvsz : ∀ r ∈ [(⟨av, cv, vs, zeroR⟩ : RRow)], r.sz 1000000000 := fun r hr => by
              obtain rfl := List.mem_singleton.1 hr
              have h := HVS.out.2
              exact ⟨⟨Nat.le_trans h.1.1 (by decide), Nat.le_trans h.1.2 (by decide)⟩, fun R hR => ⟨Nat.le_trans (h.2 R hR).1 (by decide), Nat.le_trans (h.2 R hR).2 (by decide)⟩⟩
            have hvxl : ∀ r ∈ [(⟨av, cv, vs, zeroR⟩ : RRow)], r.xs.length ≤ 1000000 := fun r hr => by
              obtain rfl := List.mem_singleton.1 hr
              exact Nat.le_trans HVS.out.1 (by decide)
            have hR2 : ∀ res, rightRows (vs.length : Int) [⟨av, cv, vs, zeroR⟩] = res → Calls Tryz.prog 10 #[.int .i64 (vs.length : Int), .slice (some ⟨gU, 0, none⟩) 1 1] v5 (fun e w' => e = .returned (.bool res) ∧ Below v5.heap.size v5 w') := fun res hres =>
              rright_any (vs.length : Int) (some ⟨gU, 0, none⟩) 1 [⟨av, cv, vs, zeroR⟩] v5 (one_row bU HVF.out (HV.out.below sb7 (Nat.le_refl _))) hvsz (by simp) hvxl hres
            cases hok2 : rightRows (vs.length : Int) [⟨av, cv, vs, zeroR⟩] with
            | false =>
              have HR2 := hide (hR2 _ hok2)
              have HV5 := hide hv5
              have HGU := hide hgU
              clear hR2 hv5 hgU hok2 hvsz hvxl bU sU
              go_wp2_with fail
              rw [HV5.out, HGU.out]
              refine HR2.out.mono ?_
              rintro e w6 ⟨rfl, hb6⟩
              have sb8 := sb7.trans (hb6.mono sb7.size)
              clear HV5 HGU
              go_wp2_with fail
              go_ret
              exact ⟨rfl, sb8⟩
            | true =>
              have HR2 := hide (hR2 _ hok2)
              have HV5 := hide hv5
              have HGU := hide hgU
              have hfr : ∀ R ∈ vs, R.fr = true := (right_row hok2 (i := 0) (by simp)).2.2
              have hVq : ∀ c, c < vs.length → Qn 1 (valQ vs c) := fun c hc => by
                rw [valQ_at hc]
                exact RFr.size (hfr _ (List.getElem_mem hc)) (HVS.out.2.2 _ (List.getElem_mem hc)) (Nat.le_refl _)
              have hVat : 0 < vs.length → ∃ vb vo, av = some ⟨vb, vo, none⟩ ∧ ∀ c, c < vs.length → FAt w vb (vo + c * 4) (valQ vs c) := fun h0 => by
                obtain ⟨vb, vo, e, h⟩ := HV.out h0
                exact ⟨vb, vo, e, fun c hc => by rw [valQ_at hc]; exact (h c hc).fat (hfr _ (List.getElem_mem hc))⟩
              obtain ⟨hA, hM⟩ := sys_size (N := 1) HOK.out (fun r hr => (HRS.out r hr).2) (Nat.le_refl _)
              have hRVw : ∃ b o, (0 < (sysOf vs.length rs).m → a = some ⟨b, o, none⟩) ∧ RowsV w b o (sysOf vs.length rs) := by
                rcases Nat.eq_zero_or_pos rs.length with h0 | h0
                · exact ⟨0, 0, fun h => by have h : 0 < rs.length := h; omega, fun i hi => by have hi : i < rs.length := hi; omega⟩
                · obtain ⟨b, o, e, h⟩ := HX.out.val HOK.out h0
                  exact ⟨b, o, fun _ => e, h⟩
              clear hR2 hv5 hgU hok2 hvsz hvxl bU sU hfr
              go_wp2_with fail
              rw [HV5.out, HGU.out]
              refine HR2.out.mono ?_
              rintro e w6 ⟨rfl, hb6⟩
              have sb8 := sb7.trans (hb6.mono sb7.size)
              clear HV5 HGU HR HR2 HRS HVS HX HV HVF HOK sb7 sb6 sb5 sb4 sb3 sb2 hb5 hb6 hxL
              obtain ⟨V, hV⟩ : ∃ V, valQ vs = V := ⟨_, rfl⟩
              rw [hV] at hVq hVat
              obtain ⟨S, hS⟩ : ∃ S, sysOf vs.length rs = S := ⟨_, rfl⟩
              have hSn : S.n = vs.length := by rw [← hS]; rfl
              have hSm : S.m = rs.length := by rw [← hS]; rfl
              rw [hS] at hA hM hRVw
              clear hS hV
              obtain ⟨n, hn⟩ : ∃ n, vs.length = n := ⟨_, rfl⟩
              obtain ⟨m, hm⟩ : ∃ m, rs.length = m := ⟨_, rfl⟩
              rw [hn] at hSn h6 e1 e2 hVq hVat ⊢
              rw [hm] at hSm h10 h16 e3 e4 ⊢
              clear hn hm
              obtain rfl := hSn
              obtain rfl := hSm
              obtain ⟨b, o, ha, hRV⟩ := hRVw
              have HSA := hide hA
              have HSM := hide hM
              have HAA := hide ha
              have HRV := hide hRV
              have HVQ := hide hVq
              have HVA := hide hVat
              clear hA hM ha hRV hVq hVat vs rs
              obtain ⟨w7, hw7⟩ : ∃ w7, w6.alloc (.cells #[] 43) = w7 := ⟨_, rfl⟩
              obtain ⟨g7, hg7⟩ : ∃ g7, w6.heap.size = g7 := ⟨_, rfl⟩
              have sb9 : Below w.heap.size w w7 := by rw [← hw7]; exact sb8.alloc sb8.size _
              have hR0 : RowsC w7 w.heap.size (.slice (some ⟨g7, 0, none⟩) 0 0) (tiS S V 0) := ⟨[], by rw [← hw7, ← hg7]; exact World.ownsRow_made w6 #[] 0 sb8.size (by unfold maxLen; omega) rfl, fun g hg => by
                obtain rfl := Option.some.inj hg
                have hbk : Blk w7 g7 43 #[] := by rw [← hw7, ← hg7]; exact Blk.new _ _ _
                exact Calm.of hbk (fun u hu => by simp at hu), fun g hg i hi => absurd hi (Nat.not_lt_zero _)⟩
              have HR0 := hide hR0
              have HW7 := hide hw7
              have HG7 := hide hg7
              clear hw7 hg7 hR0 e1 e2 e3 e4 sb8
              go_upto_region 7 with (fail)
              rw [HW7.out, HG7.out]
              clear HW7 HG7
              go_wp2_with fail
              go_loopg [6, 60] S.m (fun k v6 v60 wr => ∃ (j : Nat), j + k = S.m ∧ v60 = .int .i64 (j : Int) ∧ Below w.heap.size w wr ∧ Hid (RowsC wr w.heap.size v6 (tiS S V j)))
              case atStart => exact ⟨0, by omega, rfl, sb9, HR0⟩
              case round =>
                clear HR0 sb9
                obtain ⟨j, hjk, rfl, hB, HC⟩ := hrel
                rcases Nat.eq_zero_or_pos gk with h0 | h0
                · subst h0
                  obtain rfl : j = S.m := by omega
                  clear hjk
                  obtain ⟨la, lk, hfo, lb, lo, hla, hLV⟩ := HC.out.form
                  have hfo' : _ = Value.slice la S.m lk := hfo
                  subst hfo'
                  have hs1 : Calls Tryz.prog 8 #[.int .i64 (S.n : Int), .slice la S.m lk] wr (SolveQ wr (tiS S V S.m) _ _) := solve_q (S := tiS S V S.m) (a := la) (cap := lk) wr (tiS_fair h6 h10 HSA.out HVQ.out (by omega)) (by decide) (by decide) hla hLV
                  have HS1 := hide hs1
                  clear hs1 hla hLV hfo
                  go_wp2_with fail
                  refine HS1.out.mono ?_
                  rintro e w8 ⟨hb8, v1, rfl, hq1⟩
                  have sb8 := hB.trans (hb8.mono hB.size)
                  have HC8 := hide (HC.out.below hb8)
                  clear HC HS1 hb8 hB
                  rcases hq1 with ⟨x1, hfit1, hxs1, g1, hg1, rfl, hat1⟩ | ⟨y1, hnev1, _⟩
                  · have hat1' : ∀ c, c < S.n → FAt w8 g1 (c * 4) (x1 c) := hat1
                    have hxs1' : ∀ c, c < S.n → Qn (S.n * (szB 1 S.n + 19 + 1) + 19 + 1) (x1 c) := hxs1
                    obtain ⟨w9, hw9⟩ : ∃ w9, w8.alloc (.cells #[.slice (some ⟨g1, 0, none⟩) S.n S.n, .slice none 0 0] 27) = w9 := ⟨_, rfl⟩
                    obtain ⟨gX, hgX⟩ : ∃ gX, w8.heap.size = gX := ⟨_, rfl⟩
                    have bX : Blk w9 gX 27 #[.slice (some ⟨g1, 0, none⟩) S.n S.n, .slice none 0 0] := by rw [← hw9, ← hgX]; exact Blk.new _ _ _
                    have hb9 : Below w8.heap.size w8 w9 := by rw [← hw9]; exact (Below.refl _ _).alloc (Nat.le_refl _) _
                    have sb9 : Below w.heap.size w w9 := sb8.trans (hb9.mono sb8.size)
                    have hgXw : w.heap.size ≤ gX := by have := sb8.size; omega
                    have HC9 := hide (HC8.out.below hb9)
                    have hlw9 : ∀ g, (Value.slice la S.m lk).ownBlock = some g → g ≠ gX := fun g e => by have := HC8.out.lt g e; omega
                    have hRS : ∀ wz, Below w9.heap.size w9 wz → Calls Tryz.prog 9 #[.slice la S.m lk] wz (fun e w' => Below wz.heap.size wz w' ∧ ∃ g k, e = .returned (.slice (some ⟨g, 0, none⟩) S.m k) ∧ RowsV w' g 0 (tiS S V S.m)) := fun wz hz => by
                      obtain ⟨a', k', e, lb, lo, hla, hLV⟩ := (HC9.out.below hz).form
                      have e' : Value.slice la S.m lk = .slice a' S.m k' := e
                      injection e' with e1 _ e2
                      subst e1 e2
                      exact rows_v (S := tiS S V S.m) wz (fun i c hi hc => Qn.mono (tiS_A HSA.out i c hc) (by decide)) (fun i hi => Qn.mono (tiS_most h6 HSA.out HVQ.out i (by have : i < S.m := hi; omega)) (by decide)) (by show S.n ≤ 1000; omega) (by show S.m ≤ 1000; omega) hla hLV
                    have hsz : FitSz (tiS S V S.m) x1 := fit_sz (k := 1) (M := 19) (by show S.n ≤ 8; omega) (by show S.m ≤ 1000; omega) (by decide) (by decide) (fun i c hi hc => tiS_A HSA.out i c hc) (fun c hc => Qn.mono (hxs1' c hc) (k19_le (by omega))) (fun i hi => tiS_most h6 HSA.out HVQ.out i (by have : i < S.m := hi; omega))
                    have hFS : ∀ wz gL kL, Below w9.heap.size w9 wz → RowsV wz gL 0 (tiS S V S.m) → Calls Tryz.prog 13 #[.slice (some ⟨gL, 0, none⟩) S.m kL, .slice (some ⟨g1, 0, none⟩) S.n S.n] wz (fun e w' => e = .returned (.bool true) ∧ Below wz.heap.size wz w') := fun wz gL kL hz hL =>
                      rfits_any (S := tiS S V S.m) (cap := kL) (capv := S.n) (a := some ⟨gL, 0, none⟩) (av := some ⟨g1, 0, none⟩) (gv := g1) (ov := 0) wz hsz (fun _ => rfl) hL (fun _ => rfl) (fun i hi => by rw [Nat.zero_add]; exact ((hat1' i hi).below hb9 (Nat.le_refl _)).below hz (Nat.le_refl _)) hfit1
                    have HRS := hide hRS
                    have HFS := hide hFS
                    have HW9 := hide hw9
                    have HGX := hide hgX
                    have HLW9 := hide hlw9
                    clear hw9 hgX hRS hFS hsz hat1 hat1' hxs1 hxs1' hfit1 hlw9 HC8 sb8
                    obtain ⟨k0, k1, -⟩ := bX.c2
                    go_upto_region 19 with (fail)
                    have en : (tiS S V S.m).n = S.n := rfl
                    try rw [en]
                    rw [HW9.out, HGX.out]
                    clear HW9 HGX en
                    refine wp_region_held_drew (S := fun w' => w'.cell? ⟨gX, 0, none⟩ = some (.slice (some ⟨g1, 0, none⟩) S.n S.n) ∧ w'.cell? ⟨gX, 1, none⟩ = some (.slice none 0 0) ∧ Below w9.heap.size w9 w') (by kernel_rfl) (⟨k0, k1, (Below.refl _ _).drew⟩) (fun hS => ?_)
                    refine wpAnyH_take (i := 0) (oi := ⟨some 97, Op.move (Operand.tmp 12), 28, "law.go:94", #[], none⟩) (v := ?_) rfl (by kernel_rfl) (by kernel_rfl) (by kernel_rfl) (fun _ _ _ h => h) (Or.inl ⟨by rfl, ?_⟩) hS ?_
                    rotate_left
                    · (intro w' hSw; (try dsimp only at hSw); go_simp; try with_reducible rfl)
                    try simp only [Act.put, sB, sC, sD]
                    refine wpAnyH_take (i := 1) (oi := ⟨some 98, Op.binOp BinOp.neq 28 (Operand.tmp 97) (Operand.const (Value.int IntKind.i64 0)) 28, 4, "law.go:94", #[eD 0], none⟩) (v := ?_) rfl (by kernel_rfl) (by kernel_rfl) (by kernel_rfl) (fun _ _ _ h => h) (Or.inl ⟨by rfl, ?_⟩) hS ?_
                    rotate_left
                    · (intro w' hSw; (try dsimp only at hSw); go_simp; try with_reducible rfl)
                    try simp only [Act.put, sB, sC, sD]
                    refine wpAnyH_take (i := 2) (oi := ⟨some 99, Op.move (Operand.tmp 98), 4, "law.go:94", #[eD 1], none⟩) (v := ?_) rfl (by kernel_rfl) (by kernel_rfl) (by kernel_rfl) (fun _ _ _ h => h) (Or.inl ⟨by rfl, ?_⟩) hS ?_
                    rotate_left
                    · (intro w' hSw; (try dsimp only at hSw); go_simp; try with_reducible rfl)
                    try simp only [Act.put, sB, sC, sD]
                    refine wpAnyH_take (i := 3) (oi := ⟨some 100, Op.fieldAddr 27 (Operand.tmp 11) 1, 0, "law.go:94", #[eG 2], some (2, false)⟩) (v := ?_) rfl (by kernel_rfl) (by kernel_rfl) (by kernel_rfl) (fun _ _ _ h => h) (Or.inl ⟨by rfl, ?_⟩) hS ?_
                    rotate_left
                    · (intro w' hSw; (try dsimp only at hSw); go_simp; try with_reducible rfl)
                    try simp only [Act.put, sB, sC, sD]
                    refine wpAnyH_take (i := 4) (oi := ⟨some 101, Op.load 25 (Operand.tmp 100), 25, "law.go:94", #[eD 3, eG 2], some (2, false)⟩) (v := ?_) rfl (by kernel_rfl) (by kernel_rfl) (by kernel_rfl) (fun _ _ _ h => h) (Or.inl ⟨by rfl, ?_⟩) hS ?_
                    rotate_left
                    · (intro w' hSw; (try dsimp only at hSw); go_simp; try with_reducible rfl)
                    try simp only [Act.put, sB, sC, sD]
                    refine wpAnyH_take (i := 5) (oi := ⟨some 102, Op.call { callee := Callee.builtin Builtin.len, args := #[Operand.tmp 101], argTypes := #[25] }, 3, "law.go:94", #[eD 4, eG 2], some (2, false)⟩) (v := ?_) rfl (by kernel_rfl) (by kernel_rfl) (by kernel_rfl) (fun _ _ _ h => h) (Or.inl ⟨by rfl, ?_⟩) hS ?_
                    rotate_left
                    · (intro w' hSw; (try dsimp only at hSw); go_simp; try with_reducible rfl)
                    try simp only [Act.put, sB, sC, sD]
                    refine wpAnyH_take (i := 6) (oi := ⟨some 103, Op.binOp BinOp.neq 3 (Operand.tmp 102) (Operand.const (Value.int IntKind.i64 0)) 3, 4, "law.go:94", #[eD 5, eG 2], some (2, false)⟩) (v := ?_) rfl (by kernel_rfl) (by kernel_rfl) (by kernel_rfl) (fun _ _ _ h => h) (Or.inl ⟨by rfl, ?_⟩) hS ?_
                    rotate_left
                    · (intro w' hSw; (try dsimp only at hSw); go_simp; try with_reducible rfl)
                    try simp only [Act.put, sB, sC, sD]
                    refine wpAnyH_take (i := 7) (oi := ⟨some 104, Op.pick (Operand.tmp 99) (Operand.const (Value.bool true)) (Operand.tmp 103), 4, "law.go:94", #[eD 2, eD 6], none⟩) (v := ?_) rfl (by kernel_rfl) (by kernel_rfl) (by kernel_rfl) (fun _ _ _ h => h) (Or.inl ⟨by rfl, ?_⟩) hS ?_
                    rotate_left
                    · (intro w' hSw; (try dsimp only at hSw); go_simp; try with_reducible rfl)
                    try simp only [Act.put, sB, sC, sD]
                    refine wpAnyH_take (i := 8) (oi := ⟨some 105, Op.move (Operand.tmp 104), 4, "law.go:94", #[eD 7, eC 2], none⟩) (v := ?_) rfl (by kernel_rfl) (by kernel_rfl) (by kernel_rfl) (fun _ _ _ h => h) (Or.inl ⟨by rfl, ?_⟩) hS ?_
                    rotate_left
                    · (intro w' hSw; (try dsimp only at hSw); go_simp; try with_reducible rfl)
                    try simp only [Act.put, sB, sC, sD]
                    refine wpAnyH_take (i := 9) (oi := ⟨some 106, Op.fieldAddr 27 (Operand.tmp 11) 0, 0, "law.go:94", #[eG 8], some (8, false)⟩) (v := ?_) rfl (by kernel_rfl) (by kernel_rfl) (by kernel_rfl) (fun _ _ _ h => h) (Or.inl ⟨by rfl, ?_⟩) hS ?_
                    rotate_left
                    · (intro w' hSw; (try dsimp only at hSw); go_simp; try with_reducible rfl)
                    try simp only [Act.put, sB, sC, sD]
                    refine wpAnyH_take (i := 10) (oi := ⟨some 107, Op.load 25 (Operand.tmp 106), 25, "law.go:94", #[eD 9, eG 8], some (8, false)⟩) (v := ?_) rfl (by kernel_rfl) (by kernel_rfl) (by kernel_rfl) (fun _ _ _ h => h) (Or.inl ⟨by rfl, ?_⟩) hS ?_
                    rotate_left
                    · (intro w' hSw; (try dsimp only at hSw); go_simp; try with_reducible rfl)
                    try simp only [Act.put, sB, sC, sD]
                    refine wpAnyH_take (i := 11) (oi := ⟨some 108, Op.call { callee := Callee.builtin Builtin.len, args := #[Operand.tmp 107], argTypes := #[25] }, 3, "law.go:94", #[eD 10, eG 8], some (8, false)⟩) (v := ?_) rfl (by kernel_rfl) (by kernel_rfl) (by kernel_rfl) (fun _ _ _ h => h) (Or.inl ⟨by rfl, ?_⟩) hS ?_
                    rotate_left
                    · (intro w' hSw; (try dsimp only at hSw); go_simp; try with_reducible rfl)
                    try simp only [Act.put, sB, sC, sD]
                    refine wpAnyH_take (i := 12) (oi := ⟨some 109, Op.move (Operand.tmp 5), 3, "law.go:94", #[eG 8], some (8, false)⟩) (v := ?_) rfl (by kernel_rfl) (by kernel_rfl) (by kernel_rfl) (fun _ _ _ h => h) (Or.inl ⟨by rfl, ?_⟩) hS ?_
                    rotate_left
                    · (intro w' hSw; (try dsimp only at hSw); go_simp; try with_reducible rfl)
                    try simp only [Act.put, sB, sC, sD]
                    refine wpAnyH_take (i := 13) (oi := ⟨some 110, Op.binOp BinOp.neq 3 (Operand.tmp 108) (Operand.tmp 109) 3, 4, "law.go:94", #[eD 11, eD 12, eG 8], some (8, false)⟩) (v := ?_) rfl (by kernel_rfl) (by kernel_rfl) (by kernel_rfl) (fun _ _ _ h => h) (Or.inl ⟨by rfl, ?_⟩) hS ?_
                    rotate_left
                    · (intro w' hSw; (try dsimp only at hSw); go_simp; try with_reducible rfl)
                    try simp only [Act.put, sB, sC, sD]
                    refine wpAnyH_take (i := 14) (oi := ⟨some 111, Op.pick (Operand.tmp 105) (Operand.const (Value.bool true)) (Operand.tmp 110), 4, "law.go:94", #[eD 8, eD 13], none⟩) (v := ?_) rfl (by kernel_rfl) (by kernel_rfl) (by kernel_rfl) (fun _ _ _ h => h) (Or.inl ⟨by rfl, ?_⟩) hS ?_
                    rotate_left
                    · (intro w' hSw; (try dsimp only at hSw); go_simp; try with_reducible rfl)
                    try simp only [Act.put, sB, sC, sD]
                    refine wpAnyH_take (i := 15) (oi := ⟨some 112, Op.move (Operand.tmp 111), 4, "law.go:94", #[eD 14, eC 8], none⟩) (v := ?_) rfl (by kernel_rfl) (by kernel_rfl) (by kernel_rfl) (fun _ _ _ h => h) (Or.inl ⟨by rfl, ?_⟩) hS ?_
                    rotate_left
                    · (intro w' hSw; (try dsimp only at hSw); go_simp; try with_reducible rfl)
                    try simp only [Act.put, sB, sC, sD]
                    refine wpAnyH_take (i := 16) (oi := ⟨some 113, Op.move (Operand.tmp 6), 22, "law.go:94", #[eG 15], some (15, false)⟩) (v := ?_) rfl (by kernel_rfl) (by kernel_rfl) (by kernel_rfl) (fun _ _ _ h => h) (Or.inl ⟨by rfl, ?_⟩) hS ?_
                    rotate_left
                    · (intro w' hSw; (try dsimp only at hSw); go_simp; try with_reducible rfl)
                    try simp only [Act.put, sB, sC, sD]
                    refine wpAnyH_take (i := 18) (oi := ⟨some 115, Op.fieldAddr 27 (Operand.tmp 11) 0, 0, "law.go:94", #[eG 15], some (15, false)⟩) (v := ?_) rfl (by kernel_rfl) (by kernel_rfl) (by kernel_rfl) (fun _ _ _ h => h) (Or.inl ⟨by rfl, ?_⟩) hS ?_
                    rotate_left
                    · (intro w' hSw; (try dsimp only at hSw); go_simp; try with_reducible rfl)
                    try simp only [Act.put, sB, sC, sD]
                    refine wpAnyH_take (i := 19) (oi := ⟨some 116, Op.load 25 (Operand.tmp 115), 25, "law.go:94", #[eD 18, eG 15], some (15, false)⟩) (v := ?_) rfl (by kernel_rfl) (by kernel_rfl) (by kernel_rfl) (fun _ _ _ h => h) (Or.inl ⟨by rfl, ?_⟩) hS ?_
                    rotate_left
                    · (intro w' hSw; (try dsimp only at hSw); go_simp; try with_reducible rfl)
                    try simp only [Act.put, sB, sC, sD]
                    refine wpAnyH_ready (rs := [17]) (by kernel_rfl) (by simp) ?_
                    refine AllReadyH.cons (o := ⟨some 114, Op.call { callee := Callee.value (Operand.func 9), args := #[Operand.tmp 113], argTypes := #[22] }, 31, "law.go:94", #[eD 16, eC 15, eG 15], some (15, false)⟩) rfl (fun K hK => ?_) AllReadyH.nil
                    go_simp
                    (go_at_call 9; (with_reducible refine (HRS.out _ hS.2.2).mono ?_); rintro e wC ⟨hb1, gL, kL, rfl, hLV⟩)
                    go_wp2_with fail
                    refine hK.out _ _ (⟨cellK hb1 hS.1, cellK hb1 hS.2.1, hS.2.2.trans (hb1.mono hS.2.2.size)⟩) (fun hS => ?_)
                    clear hK K hb1
                    try simp only [Act.put, sB, sC, sD]
                    refine wpAnyH_ready (rs := [20]) (by kernel_rfl) (by simp) ?_
                    refine AllReadyH.cons (o := ⟨some 117, Op.call { callee := Callee.value (Operand.func 13), args := #[Operand.tmp 114, Operand.tmp 116], argTypes := #[31, 25] }, 4, "law.go:94", #[eD 17, eD 19, eC 17, eG 15], some (15, false)⟩) rfl (fun K hK => ?_) AllReadyH.nil
                    go_simp
                    (go_at_call 13; (with_reducible refine (HFS.out _ gL kL hS.2.2 hLV).mono ?_); rintro e wD ⟨rfl, hb1⟩)
                    go_wp2_with fail
                    refine hK.out _ _ (⟨cellK hb1 hS.1, cellK hb1 hS.2.1, hS.2.2.trans (hb1.mono hS.2.2.size)⟩) (fun hS => ?_)
                    clear hK K hb1
                    try simp only [Act.put, sB, sC, sD]
                    refine wpAnyH_take (i := 21) (oi := ⟨some 118, Op.unOp UnOp.not 4 (Operand.tmp 117), 4, "law.go:94", #[eD 20, eG 15], some (15, false)⟩) (v := ?_) rfl (by kernel_rfl) (by kernel_rfl) (by kernel_rfl) (fun _ _ _ h => h) (Or.inl ⟨by rfl, ?_⟩) hS ?_
                    rotate_left
                    · (intro w' hSw; (try dsimp only at hSw); go_simp; try with_reducible rfl)
                    try simp only [Act.put, sB, sC, sD]
                    refine wpAnyH_take (i := 22) (oi := ⟨some 119, Op.pick (Operand.tmp 112) (Operand.const (Value.bool true)) (Operand.tmp 118), 4, "law.go:94", #[eD 15, eD 21], none⟩) (v := ?_) rfl (by kernel_rfl) (by kernel_rfl) (by kernel_rfl) (fun _ _ _ h => h) (Or.inl ⟨by rfl, ?_⟩) hS ?_
                    rotate_left
                    · (intro w' hSw; (try dsimp only at hSw); go_simp; try with_reducible rfl)
                    try simp only [Act.put, sB, sC, sD]
                    refine wpAnyH_done (by kernel_rfl) ?_ _
                    have hS3 := hS.2.2
                    have bXD := bX.below hS3 bX.lt
                    have sbD := sb9.trans (hS3.mono sb9.size)
                    have hCD : RowsC _ w.heap.size (.slice la S.m lk) (tiS S V (S.m + 2 * 0)) := HC9.out.below hS3
                    have HCD := hide hCD
                    clear hS hS3 hCD bX k0 k1 HC9 HRS HFS
                    go_wp2_with fail
                    go_loopg [6, 122] S.n (fun k v6 v122 wi => ∃ (c : Nat), c + k = S.n ∧ v122 = .int .i64 (c : Int) ∧ Below w.heap.size w wi ∧ Blk wi gX 27 #[.slice (some ⟨g1, 0, none⟩) S.n S.n, .slice none 0 0] ∧ Hid (∀ g, v6.ownBlock = some g → g ≠ gX) ∧ Hid (RowsC wi w.heap.size v6 (tiS S V (S.m + 2 * c))))
                    case atStart => exact ⟨0, by omega, rfl, sbD, bXD, HLW9, HCD⟩
                    case round =>
                      clear bXD HCD HLW9 sbD
                      obtain ⟨c, hck, rfl, hB2, bX2, HLX, HCc⟩ := hrel
                      rcases Nat.eq_zero_or_pos gk with h0 | h0
                      · subst h0
                        obtain rfl : c = S.n := by omega
                        clear hck
                        obtain ⟨ma, mk, hfm, mb, mo, hma, hMV⟩ := HCc.out.form
                        have hfm' : _ = Value.slice ma (S.m + 2 * S.n) mk := hfm
                        subst hfm'
                        have hs2 : Calls Tryz.prog 8 #[.int .i64 (S.n : Int), .slice ma (S.m + 2 * S.n) mk] wr (SolveQ wr (tiS S V (S.m + 2 * S.n)) _ _) := solve_q (S := tiS S V (S.m + 2 * S.n)) (a := ma) (cap := mk) wr (tiS_fair h6 h10 HSA.out HVQ.out (Nat.le_refl _)) (by decide) (by decide) hma hMV
                        have HS2 := hide hs2
                        clear hs2 hma hMV hfm HCc HLX
                        obtain ⟨k0, k1, kf⟩ := bX2.c2
                        clear k0 k1 kf
                        go_wp2_with fail
                        refine HS2.out.mono ?_
                        rintro e w10 ⟨hb10, v2, rfl, hq2⟩
                        have sb10 := hB2.trans (hb10.mono hB2.size)
                        have bX10 := bX2.below hb10 bX2.lt
                        have hgX2 := bX2.lt
                        clear HS2 hB2 hb10
                        rcases hq2 with ⟨x2, hfit2, _, g2, hg2, rfl, hat2⟩ | ⟨y2, hnev2, _⟩
                        · have hat2' : ∀ c, c < S.n → FAt w10 g2 (c * 4) (V c) := fun c hc => by
                            rw [← tiS_only hfit2 hc]
                            exact hat2 c hc
                          have hne2 : gX ≠ g2 := by omega
                          obtain ⟨w11, hw11⟩ : ∃ w11, (w10.setCell ⟨gX, 0, none⟩ (.slice (some ⟨g2, 0, none⟩) S.n S.n)).setCell ⟨gX, 1, none⟩ (.slice none 0 0) = w11 := ⟨_, rfl⟩
                          have hat3 : ∀ c, c < S.n → FAt w11 g2 (c * 4) (V c) := fun c hc => by rw [← hw11]; exact (hat2' c hc).set2 bX10 hne2 _ _
                          have bX11 : Blk w11 gX 27 #[.slice (some ⟨g2, 0, none⟩) S.n S.n, .slice none 0 0] := by rw [← hw11]; exact (bX10.set_ 0 _).set_ 1 _
                          have sb11 : Below w.heap.size w w11 := by rw [← hw11]; exact (sb10.setCell hgXw _).setCell hgXw _
                          have HAT3 := hide hat3
                          have HW11 := hide hw11
                          obtain ⟨k0, k1, kf⟩ := bX10.c2
                          have kf0 := kf 0
                          have kf1 := kf 1
                          clear hw11 hat2 hat2' hat3 hfit2 kf
                          go_upto_region 29 with (fail)
                          have en : (tiS S V (S.m + 2 * S.n)).n = S.n := rfl
                          try rw [en]
                          rw [HW11.out]
                          clear HW11 en k0 k1 kf0 kf1 bX10 sb10
                          obtain ⟨k0, k1, -⟩ := bX11.c2
                          go_wp2_with fail
                          go_loopg [167] S.n (fun k v167 wi => ∃ (c : Nat), c + k = S.n ∧ v167 = .int .i64 (c : Int) ∧ Below w11.heap.size w11 wi)
                          case atStart => exact ⟨0, by omega, rfl, Below.refl _ _⟩
                          case round =>
                            clear k0 k1
                            obtain ⟨c, hck, rfl, hB3⟩ := hrel
                            rcases Nat.eq_zero_or_pos gk with h0 | h0
                            · subst h0
                              obtain rfl : c = S.n := by omega
                              clear hck
                              go_wp2_with fail
                              go_ret
                              exact ⟨rfl, sb11.trans (hB3.mono sb11.size)⟩
                            · have hc : c < S.n := by omega
                              have ec : (c : Int) < (S.n : Int) := by omega
                              obtain ⟨vb, vo, rfl, hvat⟩ := HVA.out (by omega)
                              have sb12 := sb11.trans (hB3.mono sb11.size)
                              obtain ⟨yn, ya, yl, yk, ym, yb, yi, yj, y0, y1, y2, y3, hy⟩ := (hvat c hc).below sb12 (Nat.le_refl _)
                              have zy : Qz (V c) := (HVQ.out c hc).z (by decide)
                              replace hvat := hide hvat
                              obtain ⟨WV, hWV⟩ : ∃ WV, wr.alloc (.cells #[.bool yn, .slice ya yl yk, .bool ym, .slice yb yi yj] 39) = WV := ⟨_, rfl⟩
                              obtain ⟨gv, hgv⟩ : ∃ gv, wr.heap.size = gv := ⟨_, rfl⟩
                              have bv : Blk WV gv 39 #[.bool yn, .slice ya yl yk, .bool ym, .slice yb yi yj] := by rw [← hWV, ← hgv]; exact Blk.new _ _ _
                              have hbV : Below wr.heap.size wr WV := by rw [← hWV]; exact (Below.refl _ _).alloc (Nat.le_refl _) _
                              have hyV : FracV WV (.agg #[.bool yn, .slice ya yl yk, .bool ym, .slice yb yi yj]) (V c) := hy.below hbV (Nat.le_refl _)
                              have hBV : Below w11.heap.size w11 WV := hB3.trans (hbV.mono hB3.size)
                              obtain ⟨k0, k1, -⟩ := (bX11.below hBV bX11.lt).c2
                              obtain ⟨xn, xa, xl, xk, xm, xb, xi, xj, x0, x1, x2, x3, hx⟩ := (HAT3.out c hc).below hBV (Nat.le_refl _)
                              have HWV := hide hWV
                              have HGV := hide hgv
                              clear hWV hgv hbV hy
                              go_upto_region 34 with (fail)
                              rw [HWV.out, HGV.out]
                              clear HWV HGV y0 y1 y2 y3
                              obtain ⟨y0, y1, y2, y3, -⟩ := bv.c4
                              refine wp_region_held_drew (S := fun w' => w'.cell? ⟨gX, 0, none⟩ = some (.slice (some ⟨g2, 0, none⟩) S.n S.n) ∧ w'.cell? ⟨g2, c * 4, none⟩ = some (.bool xn) ∧ w'.cell? ⟨g2, c * 4 + 1, none⟩ = some (.slice xa xl xk) ∧ w'.cell? ⟨g2, c * 4 + 2, none⟩ = some (.bool xm) ∧ w'.cell? ⟨g2, c * 4 + 3, none⟩ = some (.slice xb xi xj) ∧ w'.cell? ⟨gv, 0, none⟩ = some (.bool yn) ∧ w'.cell? ⟨gv, 1, none⟩ = some (.slice ya yl yk) ∧ w'.cell? ⟨gv, 2, none⟩ = some (.bool ym) ∧ w'.cell? ⟨gv, 3, none⟩ = some (.slice yb yi yj) ∧ Below WV.heap.size WV w') (by kernel_rfl) (⟨k0, x0, x1, x2, x3, y0, y1, y2, y3, (Below.refl _ _).drew⟩) (fun hS => ?_)
                              refine wpAnyH_take (i := 0) (oi := ⟨some 172, Op.fieldAddr 27 (Operand.tmp 11) 0, 0, "law.go:107", #[], none⟩) (v := ?_) rfl (by kernel_rfl) (by kernel_rfl) (by kernel_rfl) (fun _ _ _ h => h) (Or.inl ⟨by rfl, ?_⟩) hS ?_
                              rotate_left
                              · (intro w' hSw; (try dsimp only at hSw); go_simp; try with_reducible rfl)
                              try simp only [Act.put, sB, sC, sD]
                              refine wpAnyH_take (i := 1) (oi := ⟨some 173, Op.load 25 (Operand.tmp 172), 25, "law.go:107", #[eD 0], none⟩) (v := ?_) rfl (by kernel_rfl) (by kernel_rfl) (by kernel_rfl) (fun _ _ _ h => h) (Or.inl ⟨by rfl, ?_⟩) hS ?_
                              rotate_left
                              · (intro w' hSw; (try dsimp only at hSw); go_simp; try with_reducible rfl)
                              try simp only [Act.put, sB, sC, sD]
                              refine wpAnyH_take (i := 2) (oi := ⟨some 174, Op.move (Operand.tmp 17), 3, "law.go:107", #[], none⟩) (v := ?_) rfl (by kernel_rfl) (by kernel_rfl) (by kernel_rfl) (fun _ _ _ h => h) (Or.inl ⟨by rfl, ?_⟩) hS ?_
                              rotate_left
                              · (intro w' hSw; (try dsimp only at hSw); go_simp; try with_reducible rfl)
                              try simp only [Act.put, sB, sC, sD]
                              refine wpAnyH_take (i := 3) (oi := ⟨some 175, Op.indexAddr 25 (Operand.tmp 173) (Operand.tmp 174), 0, "law.go:107", #[eD 1, eD 2], none⟩) (v := ?_) rfl (by kernel_rfl) (by kernel_rfl) (by kernel_rfl) (fun _ _ _ h => h) (Or.inl ⟨by rfl, ?_⟩) hS ?_
                              rotate_left
                              · (intro w' hSw; (try dsimp only at hSw); go_simp; try with_reducible rfl)
                              try simp only [Act.put, sB, sC, sD]
                              refine wpAnyH_take (i := 4) (oi := ⟨some 176, Op.load 39 (Operand.tmp 175), 39, "law.go:107", #[eD 3], none⟩) (v := ?_) rfl (by kernel_rfl) (by kernel_rfl) (by kernel_rfl) (fun _ _ _ h => h) (Or.inl ⟨by rfl, ?_⟩) hS ?_
                              rotate_left
                              · (intro w' hSw; (try dsimp only at hSw); go_simp; try with_reducible rfl)
                              try simp only [Act.put, sB, sC, sD]
                              refine wpAnyH_take (i := 5) (oi := ⟨some 177, Op.load 39 (Operand.tmp 18), 39, "law.go:107", #[], none⟩) (v := ?_) rfl (by kernel_rfl) (by kernel_rfl) (by kernel_rfl) (fun _ _ _ h => h) (Or.inl ⟨by rfl, ?_⟩) hS ?_
                              rotate_left
                              · (intro w' hSw; (try dsimp only at hSw); go_simp; try with_reducible rfl)
                              try simp only [Act.put, sB, sC, sD]
                              refine wpAnyH_ready (rs := [6]) (by kernel_rfl) (by simp) ?_
                              refine AllReadyH.cons (o := ⟨some 178, Op.call { callee := Callee.value (Operand.func 18), args := #[Operand.tmp 176, Operand.tmp 177], argTypes := #[39, 39] }, 4, "law.go:107", #[eD 4, eD 5], none⟩) rfl (fun K hK => ?_) AllReadyH.nil
                              go_simp
                              (go_at_call 18; (with_reducible refine (Same3_true (hx.below (hS.2.2.2.2.2.2.2.2.2) (Nat.le_refl _)) (hyV.below (hS.2.2.2.2.2.2.2.2.2) (Nat.le_refl _)) rfl zy).mono ?_); rintro e wC ⟨rfl, hb1⟩)
                              go_wp2_with fail
                              refine hK.out _ _ (keepZ9 hS hb1) (fun hS => ?_)
                              clear hK K hb1
                              try simp only [Act.put, sB, sC, sD]
                              refine wpAnyH_take (i := 7) (oi := ⟨some 179, Op.unOp UnOp.not 4 (Operand.tmp 178), 4, "law.go:107", #[eD 6], none⟩) (v := ?_) rfl (by kernel_rfl) (by kernel_rfl) (by kernel_rfl) (fun _ _ _ h => h) (Or.inl ⟨by rfl, ?_⟩) hS ?_
                              rotate_left
                              · (intro w' hSw; (try dsimp only at hSw); go_simp; try with_reducible rfl)
                              try simp only [Act.put, sB, sC, sD]
                              refine wpAnyH_done (by kernel_rfl) ?_ _
                              have hBN : Below w11.heap.size w11 _ := hBV.trans ((hS.2.2.2.2.2.2.2.2.2).mono hBV.size)
                              clear hS k0 k1 x0 x1 x2 x3 y0 y1 y2 y3
                              go_wp2_with fail
                              go_roundg (gk - 1)
                              case measure => omega
                              case rel => exact ⟨c + 1, by omega, by go_num, hBN⟩
                        · exact (hnev2.no (tiS_fits (Nat.le_refl _))).elim
                      · have hc : c < S.n := by omega
                        have ec : (c : Int) < (S.n : Int) := by omega
                        obtain ⟨vb, vo, rfl, hvat⟩ := HVA.out (by omega)
                        obtain ⟨yn, ya, yl, yk, ym, yb, yi, yj, y0, y1, y2, y3, hy⟩ := (hvat c hc).below hB2 (Nat.le_refl _)
                        have zy : Qz (V c) := (HVQ.out c hc).z (by decide)
                        replace hvat := hide hvat
                        obtain ⟨WV, hWV⟩ : ∃ WV, wr.alloc (.cells #[.bool yn, .slice ya yl yk, .bool ym, .slice yb yi yj] 39) = WV := ⟨_, rfl⟩
                        obtain ⟨gv, hgv⟩ : ∃ gv, wr.heap.size = gv := ⟨_, rfl⟩
                        have bv : Blk WV gv 39 #[.bool yn, .slice ya yl yk, .bool ym, .slice yb yi yj] := by rw [← hWV, ← hgv]; exact Blk.new _ _ _
                        have hbV : Below wr.heap.size wr WV := by rw [← hWV]; exact (Below.refl _ _).alloc (Nat.le_refl _) _
                        have sbV := hB2.trans (hbV.mono hB2.size)
                        have hyV : FracV WV (.agg #[.bool yn, .slice ya yl yk, .bool ym, .slice yb yi yj]) (V c) := hy.below hbV (Nat.le_refl _)
                        have bXV := bX2.below hbV bX2.lt
                        have HLV : Hid (∀ g, Value.ownBlock _ = some g → w.heap.size ≤ g ∧ g < gv) := hide (fun g e => by have := HCc.out.lt g e; omega)
                        have HCV := hide (HCc.out.below hbV)
                        have hgXv : gX < gv := by have := bX2.lt; omega
                        have HWV := hide hWV
                        have HGV := hide hgv
                        clear hWV hgv hbV hy bX2 HCc hB2
                        go_upto_region 24 with (fail)
                        rw [HWV.out, HGV.out]
                        clear HWV HGV y0 y1 y2 y3
                        go_cut [15, 16] from 127 to 130 (fun v15 v16 wc => ∃ gu gd, v15 = .slice (some ⟨gu, 0, none⟩) S.n S.n ∧ v16 = .slice (some ⟨gd, 0, none⟩) S.n S.n ∧ gu ≠ gd ∧ WV.heap.size ≤ gu ∧ WV.heap.size ≤ gd ∧ Hid (ZRow wc gu S.n) ∧ Hid (ZRow wc gd S.n) ∧ Below WV.heap.size WV wc)
                        case first =>
                          refine wp_region_held_drew (S := fun _ => True) (by kernel_rfl) trivial (fun hS => ?_)
                          refine wpAnyH_take (i := 0) (oi := ⟨some 127, Op.move (Operand.tmp 5), 3, "law.go:98", #[], none⟩) (v := ?_) rfl (by kernel_rfl) (by kernel_rfl) (by kernel_rfl) (fun _ _ _ h => h) (Or.inl ⟨by rfl, ?_⟩) trivial ?_
                          rotate_left
                          · (intro w' hSw; (try dsimp only at hSw); go_simp; try with_reducible rfl)
                          try simp only [Act.put, sB, sC, sD]
                          refine wpAnyH_take (i := 2) (oi := ⟨some 129, Op.move (Operand.tmp 5), 3, "law.go:98", #[], none⟩) (v := ?_) rfl (by kernel_rfl) (by kernel_rfl) (by kernel_rfl) (fun _ _ _ h => h) (Or.inl ⟨by rfl, ?_⟩) trivial ?_
                          rotate_left
                          · (intro w' hSw; (try dsimp only at hSw); go_simp; try with_reducible rfl)
                          try simp only [Act.put, sB, sC, sD]
                          refine wpAnyH_ready (rs := [1, 3]) (by kernel_rfl) (by simp) ?_
                          refine AllReadyH.cons (o := ⟨some 128, Op.makeSlice 25 (Operand.tmp 127) (Operand.tmp 127), 25, "law.go:98", #[eD 0, eD 0], none⟩) rfl (fun K hK => ?_) (AllReadyH.cons (o := ⟨some 130, Op.makeSlice 25 (Operand.tmp 129) (Operand.tmp 129), 25, "law.go:98", #[eD 2, eD 2], none⟩) rfl (fun K hK => ?_) AllReadyH.nil)
                          · refine step_make_fracB rfl (.tmp 127) (.tmp 127) rfl S.n (by rfl) (by rfl) (by omega) ?_
                            intro wa za ha
                            refine hK.out _ _ trivial (fun _ => ?_)
                            clear hK K
                            try simp only [Act.put, sB, sC, sD]
                            refine wpAnyH_take (i := 4) (oi := ⟨some 15, Op.assign (Operand.tmp 128), 25, "law.go:98", #[eD 1, eP 0, eP 1, { on := 2, ground := Ground.textOnly Departure.lateStores }, { on := 3, ground := Ground.textOnly Departure.lateStoresUnsure }], none⟩) (v := ?_) rfl (by kernel_rfl) (by kernel_rfl) (by kernel_rfl) (fun _ _ _ h => h) (Or.inl ⟨by rfl, ?_⟩) trivial ?_
                            rotate_left
                            · (intro w' hSw; (try dsimp only at hSw); go_simp; try with_reducible rfl)
                            try simp only [Act.put, sB, sC, sD]
                            refine wpAnyH_ready (rs := [3]) (by kernel_rfl) (by simp) ?_
                            refine AllReadyH.cons (o := ⟨some 130, Op.makeSlice 25 (Operand.tmp 129) (Operand.tmp 129), 25, "law.go:98", #[eD 2, eD 2], none⟩) rfl (fun K hK => ?_) AllReadyH.nil
                            refine step_make_fracB rfl (.tmp 129) (.tmp 129) rfl S.n (by rfl) (by rfl) (by omega) ?_
                            intro wb zb hb
                            refine hK.out _ _ trivial (fun _ => ?_)
                            clear hK K
                            try simp only [Act.put, sB, sC, sD]
                            refine wpAnyH_take (i := 5) (oi := ⟨some 16, Op.assign (Operand.tmp 130), 25, "law.go:98", #[eD 3, eC 4, eP 0, eP 1, eP 2, eP 3, eP 4], none⟩) (v := ?_) rfl (by kernel_rfl) (by kernel_rfl) (by kernel_rfl) (fun _ _ _ h => h) (Or.inl ⟨by rfl, ?_⟩) trivial ?_
                            rotate_left
                            · (intro w' hSw; (try dsimp only at hSw); go_simp; try with_reducible rfl)
                            try simp only [Act.put, sB, sC, sD]
                            have hba : Below WV.heap.size WV wa := ((Below.refl WV.heap.size WV).drew).trans ha
                            have hbw : Below WV.heap.size WV wb := hba.trans (hb.mono hba.size)
                            have hla := Blk.lt za
                            refine wpAnyH_done (by kernel_rfl) ?_ _
                            go_wp2_with fail
                            go_meet
                            exact ⟨_, _, rfl, rfl, (Nat.ne_of_lt hla), (Nat.le_refl _), hba.size, hide (Blk.below za hb hla), hide zb, hbw⟩
                          · refine step_make_fracB rfl (.tmp 129) (.tmp 129) rfl S.n (by rfl) (by rfl) (by omega) ?_
                            intro wa za ha
                            refine hK.out _ _ trivial (fun _ => ?_)
                            clear hK K
                            try simp only [Act.put, sB, sC, sD]
                            refine wpAnyH_ready (rs := [1]) (by kernel_rfl) (by simp) ?_
                            refine AllReadyH.cons (o := ⟨some 128, Op.makeSlice 25 (Operand.tmp 127) (Operand.tmp 127), 25, "law.go:98", #[eD 0, eD 0], none⟩) rfl (fun K hK => ?_) AllReadyH.nil
                            refine step_make_fracB rfl (.tmp 127) (.tmp 127) rfl S.n (by rfl) (by rfl) (by omega) ?_
                            intro wb zb hb
                            refine hK.out _ _ trivial (fun _ => ?_)
                            clear hK K
                            try simp only [Act.put, sB, sC, sD]
                            refine wpAnyH_take (i := 4) (oi := ⟨some 15, Op.assign (Operand.tmp 128), 25, "law.go:98", #[eD 1, eP 0, eP 1, { on := 2, ground := Ground.textOnly Departure.lateStores }, { on := 3, ground := Ground.textOnly Departure.lateStoresUnsure }], none⟩) (v := ?_) rfl (by kernel_rfl) (by kernel_rfl) (by kernel_rfl) (fun _ _ _ h => h) (Or.inl ⟨by rfl, ?_⟩) trivial ?_
                            rotate_left
                            · (intro w' hSw; (try dsimp only at hSw); go_simp; try with_reducible rfl)
                            try simp only [Act.put, sB, sC, sD]
                            refine wpAnyH_take (i := 5) (oi := ⟨some 16, Op.assign (Operand.tmp 130), 25, "law.go:98", #[eD 3, eC 4, eP 0, eP 1, eP 2, eP 3, eP 4], none⟩) (v := ?_) rfl (by kernel_rfl) (by kernel_rfl) (by kernel_rfl) (fun _ _ _ h => h) (Or.inl ⟨by rfl, ?_⟩) trivial ?_
                            rotate_left
                            · (intro w' hSw; (try dsimp only at hSw); go_simp; try with_reducible rfl)
                            try simp only [Act.put, sB, sC, sD]
                            have hba : Below WV.heap.size WV wa := ((Below.refl WV.heap.size WV).drew).trans ha
                            have hbw : Below WV.heap.size WV wb := hba.trans (hb.mono hba.size)
                            have hla := Blk.lt za
                            refine wpAnyH_done (by kernel_rfl) ?_ _
                            go_wp2_with fail
                            go_meet
                            exact ⟨_, _, rfl, rfl, (Nat.ne_of_gt hla), hba.size, (Nat.le_refl _), hide zb, hide (Blk.below za hb hla), hbw⟩
                        case rest =>
                          obtain ⟨gu, gd, rfl, rfl, hne, hgu, hgd, ZU, ZD, hbc⟩ := hcut
                          go_wp2_with fail
                          refine (of_any 1 wc (by decide) (by decide)).mono ?_
                          rintro e w11 ⟨r1, rfl, h1, hb11⟩
                          obtain ⟨pn, pa, pl, pk, pm, pb, pi, pj, rfl, -, -⟩ := FracV.parts h1
                          go_wp2_with fail
                          refine (of_any (-1) w11 (by decide) (by decide)).mono ?_
                          rintro e w12 ⟨r2, rfl, h2, hb12⟩
                          obtain ⟨qn, qa, ql, qk, qm, qb, qi, qj, rfl, -, -⟩ := FracV.parts h2
                          have hb : Below wc.heap.size wc w12 := hb11.trans (hb12.mono hb11.size)
                          have zu : ZRow w12 gu S.n := Blk.below ZU.out hb (Blk.lt ZU.out)
                          have zd : ZRow w12 gd S.n := Blk.below ZD.out hb (Blk.lt ZD.out)
                          have h1' : FracV w12 (.agg #[.bool pn, .slice pa pl pk, .bool pm, .slice pb pi pj]) 1 := h1.below hb12 (Nat.le_refl _)
                          have hbw : Below WV.heap.size WV w12 := hbc.trans (hb.mono hbc.size)
                          obtain ⟨W13, hW13⟩ : ∃ W13, put4 w12 gu (c * 4) (.bool pn) (.slice pa pl pk) (.bool pm) (.slice pb pi pj) = W13 := ⟨_, rfl⟩
                          obtain ⟨W14, hW14⟩ : ∃ W14, put4 W13 gd (c * 4) (.bool qn) (.slice qa ql qk) (.bool qm) (.slice qb qi qj) = W14 := ⟨_, rfl⟩
                          have zd3 : ZRow W13 gd S.n := by rw [← hW13]; exact zd.put4 (fun e => hne e.symm)
                          have hu3 : URow W13 gu S.n c 1 := by rw [← hW13]; exact urow zu hc h1'
                          have h23 : FracV W13 (.agg #[.bool qn, .slice qa ql qk, .bool qm, .slice qb qi qj]) (-1) := by rw [← hW13]; exact FracV.put4 h2 (FAt.made zu hc)
                          have hu4 : URow W14 gu S.n c 1 := by rw [← hW14]; exact hu3.put4 (FAt.made zd3 hc) hne
                          have hd4 : URow W14 gd S.n c (-1) := by rw [← hW14]; exact urow zd3 hc h23
                          have hb13 : Below WV.heap.size WV W13 := by rw [← hW13]; exact below_put4 hbw hgu _ _ _ _
                          have hb14 : Below WV.heap.size WV W14 := by rw [← hW14]; exact below_put4 hb13 hgd _ _ _ _
                          have u0 : w12.cell? ⟨gu, c * 4, none⟩ = some (.bool false) := (Blk.cell zu _).trans (made_at (d := 0) hc (by decide))
                          have u1 : w12.cell? ⟨gu, c * 4 + 1, none⟩ = some (.slice none 0 0) := (Blk.cell zu _).trans (made_at (d := 1) hc (by decide))
                          have u2 : w12.cell? ⟨gu, c * 4 + 2, none⟩ = some (.bool false) := (Blk.cell zu _).trans (made_at (d := 2) hc (by decide))
                          have u3 : w12.cell? ⟨gu, c * 4 + 3, none⟩ = some (.slice none 0 0) := (Blk.cell zu _).trans (made_at (d := 3) hc (by decide))
                          have d0 : W13.cell? ⟨gd, c * 4, none⟩ = some (.bool false) := (Blk.cell zd3 _).trans (made_at (d := 0) hc (by decide))
                          have d1 : W13.cell? ⟨gd, c * 4 + 1, none⟩ = some (.slice none 0 0) := (Blk.cell zd3 _).trans (made_at (d := 1) hc (by decide))
                          have d2 : W13.cell? ⟨gd, c * 4 + 2, none⟩ = some (.bool false) := (Blk.cell zd3 _).trans (made_at (d := 2) hc (by decide))
                          have d3 : W13.cell? ⟨gd, c * 4 + 3, none⟩ = some (.slice none 0 0) := (Blk.cell zd3 _).trans (made_at (d := 3) hc (by decide))
                          have fu0 := Blk.frozen zu (c * 4)
                          have fu1 := Blk.frozen zu (c * 4 + 1)
                          have fu2 := Blk.frozen zu (c * 4 + 2)
                          have fu3 := Blk.frozen zu (c * 4 + 3)
                          have fd0 := Blk.frozen zd3 (c * 4)
                          have fd1 := Blk.frozen zd3 (c * 4 + 1)
                          have fd2 := Blk.frozen zd3 (c * 4 + 2)
                          have fd3 := Blk.frozen zd3 (c * 4 + 3)
                          have HU4 := hide hu4
                          have HD4 := hide hd4
                          have HB14 := hide hb14
                          simp only [put4] at hW13 hW14
                          have HW14 := hide hW14
                          clear hW14 hu3 hu4 hd4 h23 zd3 hb13 hb14 zu zd h1 h1' h2 hb11 hb12 hb hbw hbc ZU ZD
                          go_upto_region 26 with (fail)
                          rw [HW14.out]
                          have bv4 := bv.below HB14.out bv.lt
                          have bX4 := bXV.below HB14.out bXV.lt
                          have hyW : FracV W14 (.agg #[.bool yn, .slice ya yl yk, .bool ym, .slice yb yi yj]) (V c) := hyV.below HB14.out (Nat.le_refl _)
                          have hy9 : FracV W14.drew (.agg #[.bool yn, .slice ya yl yk, .bool ym, .slice yb yi yj]) (V c) := hyW
                          have sb14 := sbV.trans (HB14.out.mono sbV.size)
                          have HC14 := hide (HCV.out.below HB14.out)
                          obtain ⟨y0, y1, y2, y3, -⟩ := bv4.c4
                          have hgvs : gv < WV.heap.size := bv.lt
                          clear HW14 hW13 u0 u1 u2 u3 d0 d1 d2 d3 fu0 fu1 fu2 fu3 fd0 fd1 fd2 fd3 bv bXV hyV HCV HB14
                          refine wp_region_till (S := fun w' => w'.cell? ⟨gv, 0, none⟩ = some (.bool yn) ∧ w'.cell? ⟨gv, 1, none⟩ = some (.slice ya yl yk) ∧ w'.cell? ⟨gv, 2, none⟩ = some (.bool ym) ∧ w'.cell? ⟨gv, 3, none⟩ = some (.slice yb yi yj)) (fun i => decide (i < 10)) (by kernel_rfl) (⟨y0, y1, y2, y3⟩) (fun hS => ?_)
                          refine Till_take (i := 0) (oi := ⟨some 139, Op.move (Operand.tmp 6), 22, "law.go:100", #[], none⟩) (v := ?_) rfl (by kernel_rfl) (by kernel_rfl) (by kernel_rfl) (fun _ _ _ h => h) rfl (by kernel_rfl) (Or.inl ⟨by rfl, ?_⟩) hS ?_
                          rotate_left
                          · (intro w' hSw; (try dsimp only at hSw); go_simp; try with_reducible rfl)
                          try simp only [Act.put, sB, sC, sD]
                          refine Till_take (i := 1) (oi := ⟨some 140, Op.move (Operand.tmp 15), 25, "law.go:100", #[], none⟩) (v := ?_) rfl (by kernel_rfl) (by kernel_rfl) (by kernel_rfl) (fun _ _ _ h => h) rfl (by kernel_rfl) (Or.inl ⟨by rfl, ?_⟩) hS ?_
                          rotate_left
                          · (intro w' hSw; (try dsimp only at hSw); go_simp; try with_reducible rfl)
                          try simp only [Act.put, sB, sC, sD]
                          refine Till_take (i := 2) (oi := ⟨some 141, Op.load 39 (Operand.tmp 14), 39, "law.go:100", #[], none⟩) (v := ?_) rfl (by kernel_rfl) (by kernel_rfl) (by kernel_rfl) (fun _ _ _ h => h) rfl (by kernel_rfl) (Or.inl ⟨by rfl, ?_⟩) hS ?_
                          rotate_left
                          · (intro w' hSw; (try dsimp only at hSw); go_simp; try with_reducible rfl)
                          try simp only [Act.put, sB, sC, sD]
                          refine Till_take (i := 3) (oi := ⟨some 142, Op.build 43 #[(0, Operand.tmp 140), (1, Operand.tmp 141)], 43, "law.go:100", #[eD 1, eD 2], none⟩) (v := ?_) rfl (by kernel_rfl) (by kernel_rfl) (by kernel_rfl) (fun _ _ _ h => h) rfl (by kernel_rfl) (Or.inl ⟨by rfl, ?_⟩) hS ?_
                          rotate_left
                          · (intro w' hSw; (try dsimp only at hSw); go_simp; try with_reducible rfl)
                          try simp only [Act.put, sB, sC, sD]
                          refine Till_take (i := 4) (oi := ⟨some 143, Op.move (Operand.tmp 16), 25, "law.go:100", #[], none⟩) (v := ?_) rfl (by kernel_rfl) (by kernel_rfl) (by kernel_rfl) (fun _ _ _ h => h) rfl (by kernel_rfl) (Or.inl ⟨by rfl, ?_⟩) hS ?_
                          rotate_left
                          · (intro w' hSw; (try dsimp only at hSw); go_simp; try with_reducible rfl)
                          try simp only [Act.put, sB, sC, sD]
                          refine Till_take (i := 5) (oi := ⟨some 144, Op.load 39 (Operand.tmp 14), 39, "law.go:100", #[], none⟩) (v := ?_) rfl (by kernel_rfl) (by kernel_rfl) (by kernel_rfl) (fun _ _ _ h => h) rfl (by kernel_rfl) (Or.inl ⟨by rfl, ?_⟩) hS ?_
                          rotate_left
                          · (intro w' hSw; (try dsimp only at hSw); go_simp; try with_reducible rfl)
                          try simp only [Act.put, sB, sC, sD]
                          refine Till_ready (rs := [6]) (by kernel_rfl) (by kernel_rfl) (by simp) ?_
                          refine AllReadyT.cons (o := ⟨some 145, Op.call { callee := Callee.value (Operand.func 17), args := #[Operand.tmp 144], argTypes := #[39] }, 39, "law.go:100", #[eD 5], none⟩) rfl (fun K hK => ?_) AllReadyT.nil
                          go_simp
                          (go_at_call 17; (with_reducible refine (FNeg_any _ hy9 zy).mono ?_); rintro e wC ⟨rC, rfl, hC4, hb1⟩)
                          obtain ⟨vn, va, vl, vk, vm, vb2, vi, vj, rfl, -, -⟩ := FracV.parts hC4
                          go_wp2_with fail
                          refine hK.out _ _ ⟨cellK hb1 hS.1, cellK hb1 hS.2.1, cellK hb1 hS.2.2.1, cellK hb1 hS.2.2.2⟩ (fun hS => ?_)
                          clear hK K
                          have hbC : Below W14.heap.size W14 wC := ((Below.refl W14.heap.size W14).drew).trans hb1
                          clear hb1
                          try simp only [Act.put, sB, sC, sD]
                          try simp only [Act.put, sB, sC, sD]
                          refine Till_take (i := 7) (oi := ⟨some 146, Op.build 43 #[(0, Operand.tmp 143), (1, Operand.tmp 145)], 43, "law.go:100", #[eD 4, eD 6], none⟩) (v := ?_) rfl (by kernel_rfl) (by kernel_rfl) (by kernel_rfl) (fun _ _ _ h => h) rfl (by kernel_rfl) (Or.inl ⟨by rfl, ?_⟩) hS ?_
                          rotate_left
                          · (intro w' hSw; (try dsimp only at hSw); go_simp; try with_reducible rfl)
                          try simp only [Act.put, sB, sC, sD]
                          refine Till_ready (rs := [8]) (by kernel_rfl) (by kernel_rfl) (by simp) ?_
                          refine AllReadyT.cons (o := ⟨some 147, Op.buildSlice 22 2 #[(0, Operand.tmp 142), (1, Operand.tmp 146)], 22, "law.go:100", #[eD 3, eD 7], none⟩) rfl (fun K hK => ?_) AllReadyT.nil
                          have hbA : Below wC.heap.size wC (wC.alloc (.cells #[.slice (some ⟨gu, 0, none⟩) S.n S.n, .bool yn, .slice ya yl yk, .bool ym, .slice yb yi yj, .slice (some ⟨gd, 0, none⟩) S.n S.n, .bool vn, .slice va vl vk, .bool vm, .slice vb2 vi vj] 43)) := (Below.refl _ _).alloc (Nat.le_refl _) _
                          have hbT : Below W14.heap.size W14 (wC.alloc (.cells #[.slice (some ⟨gu, 0, none⟩) S.n S.n, .bool yn, .slice ya yl yk, .bool ym, .slice yb yi yj, .slice (some ⟨gd, 0, none⟩) S.n S.n, .bool vn, .slice va vl vk, .bool vm, .slice vb2 vi vj] 43)) := hbC.trans (hbA.mono hbC.size)
                          have hRB := HC14.out.below hbT
                          obtain ⟨xs, p1, p2, p3⟩ := hRB
                          have hyB : FracV (wC.alloc (.cells #[.slice (some ⟨gu, 0, none⟩) S.n S.n, .bool yn, .slice ya yl yk, .bool ym, .slice yb yi yj, .slice (some ⟨gd, 0, none⟩) S.n S.n, .bool vn, .slice va vl vk, .bool vm, .slice vb2 vi vj] 43)) (.agg #[.bool yn, .slice ya yl yk, .bool ym, .slice yb yi yj]) (V c) := hyW.below hbT (Nat.le_refl _)
                          have hvB : FracV (wC.alloc (.cells #[.slice (some ⟨gu, 0, none⟩) S.n S.n, .bool yn, .slice ya yl yk, .bool ym, .slice yb yi yj, .slice (some ⟨gd, 0, none⟩) S.n S.n, .bool vn, .slice va vl vk, .bool vm, .slice vb2 vi vj] 43)) (.agg #[.bool vn, .slice va vl vk, .bool vm, .slice vb2 vi vj]) (-V c) := hC4.below hbA (Nat.le_refl _)
                          have huB : URow (wC.alloc (.cells #[.slice (some ⟨gu, 0, none⟩) S.n S.n, .bool yn, .slice ya yl yk, .bool ym, .slice yb yi yj, .slice (some ⟨gd, 0, none⟩) S.n S.n, .bool vn, .slice va vl vk, .bool vm, .slice vb2 vi vj] 43)) gu S.n c 1 := fun i hi => (HU4.out i hi).below hbT (Nat.le_refl _)
                          have hdB : URow (wC.alloc (.cells #[.slice (some ⟨gu, 0, none⟩) S.n S.n, .bool yn, .slice ya yl yk, .bool ym, .slice yb yi yj, .slice (some ⟨gd, 0, none⟩) S.n S.n, .bool vn, .slice va vl vk, .bool vm, .slice vb2 vi vj] 43)) gd S.n c (-1) := fun i hi => (HD4.out i hi).below hbT (Nat.le_refl _)
                          have bXB := bX4.below hbT bX4.lt
                          have sbB : Below w.heap.size w (wC.alloc (.cells #[.slice (some ⟨gu, 0, none⟩) S.n S.n, .bool yn, .slice ya yl yk, .bool ym, .slice yb yi yj, .slice (some ⟨gd, 0, none⟩) S.n S.n, .bool vn, .slice va vl vk, .bool vm, .slice vb2 vi vj] 43)) := sb14.trans (hbT.mono sb14.size)
                          have hbase := sbB.size
                          obtain ⟨i0, hi0, hz0, hz1, hz2⟩ := info_parts infoRw
                          have nv : some gv ≠ Value.ownBlock _ := fun e => by have := HLV.out gv e.symm; omega
                          have nX : some gX ≠ Value.ownBlock _ := fun e => HLX.out gX e.symm rfl
                          have nu : some gu ≠ Value.ownBlock _ := fun e => by have := HLV.out gu e.symm; omega
                          have nd : some gd ≠ Value.ownBlock _ := fun e => by have := HLV.out gd e.symm; omega
                          have lv : gv < (wC.alloc (.cells #[.slice (some ⟨gu, 0, none⟩) S.n S.n, .bool yn, .slice ya yl yk, .bool ym, .slice yb yi yj, .slice (some ⟨gd, 0, none⟩) S.n S.n, .bool vn, .slice va vl vk, .bool vm, .slice vb2 vi vj] 43)).heap.size := by have := bv4.lt; have := hbT.size; omega
                          have lX : gX < (wC.alloc (.cells #[.slice (some ⟨gu, 0, none⟩) S.n S.n, .bool yn, .slice ya yl yk, .bool ym, .slice yb yi yj, .slice (some ⟨gd, 0, none⟩) S.n S.n, .bool vn, .slice va vl vk, .bool vm, .slice vb2 vi vj] 43)).heap.size := bXB.lt
                          have HP1 := hide p1
                          have HP2 := hide p2
                          have HP3 := hide p3
                          have HHA := hide hbA
                          have HYB := hide hyB
                          have HVB := hide hvB
                          have HUB := hide huB
                          have HDB := hide hdB
                          have HZU := hide zeroRw_calm
                          have HNU := hide (ten_calm (some ⟨gu, 0, none⟩) S.n S.n yn ya yl yk ym yb yi yj (some ⟨gd, 0, none⟩) S.n S.n vn va vl vk vm vb2 vi vj)
                          clear p1 p2 p3 hyB hvB huB hdB
                          go_simp
                          refine hK.out _ _ ⟨cellK hbA hS.1, cellK hbA hS.2.1, cellK hbA hS.2.2.1, cellK hbA hS.2.2.2⟩ (fun hS => ?_)
                          clear hK K
                          try simp only [Act.put, sB, sC, sD]
                          try simp only [Act.put, sB, sC, sD]
                          refine Till_ready (rs := [9]) (by kernel_rfl) (by kernel_rfl) (by simp) ?_
                          refine AllReadyT.cons (o := ⟨some 148, Op.call { callee := Callee.builtin Builtin.append, args := #[Operand.tmp 139, Operand.tmp 147], argTypes := #[22, 22] }, 22, "law.go:100", #[eD 0, eD 8, eC 6], none⟩) rfl (fun K hK => ?_) AllReadyT.nil
                          refine step_append_calm _ rfl (.tmp 139) (.tmp 147) 22 rfl w.heap.size 43 i0 (.agg #[.slice none 0 0, .bool false, .slice none 0 0, .bool false, .slice none 0 0]) 5 88 Tryz.underlying22 hi0 hz0 hz1 hz2 rfl (by decide) _ (S.m + 2 * c) xs (by rfl) HP1.out ⟨wC.heap.size, 0, none⟩ 2 2 [.slice (some ⟨gu, 0, none⟩) S.n S.n, .bool yn, .slice ya yl yk, .bool ym, .slice yb yi yj, .slice (some ⟨gd, 0, none⟩) S.n S.n, .bool vn, .slice va vl vk, .bool vm, .slice vb2 vi vj] (by rfl) rfl (news_ten _ _ _ _ _ _ _ _ _ _ _ _) (by simp [Value.oneCell']) (by unfold maxLen; omega) (by omega) hbase HP2.out HNU.out HZU.out ?_
                          intro vN w20 hown hgrow hat hcalm
                          have hRN : RowsC w20 w.heap.size vN (tiS S V (S.m + 2 * (c + 1))) := RowsC.grow (S := tiS S V (S.m + 2 * c)) (k := 2) rfl HP1.out HP2.out HP3.out rfl (by show S.m + 2 * (c + 1) = S.m + 2 * c + 2; omega) (fun i x _ _ => rfl) (fun i _ => rfl) hown hgrow hat hcalm (two_rows rfl rfl nu nd HUB.out HDB.out HYB.out HVB.out)
                          have hBN : Below w.heap.size w w20 := sbB.grown hgrow hbase (fun k hk => (HLV.out k hk).1)
                          have bXN := bXB.grown hgrow nX
                          have hLN : ∀ g, vN.ownBlock = some g → g ≠ gX := fun g e => by
                            rcases hat with h | h
                            · exact HLX.out g (h.symm.trans e)
                            · rw [e] at h; have h := Option.some.inj h; omega
                          have HLN := hide hLN
                          have HRN := hide hRN
                          refine hK.out _ _ ⟨(hgrow.cell_far _ lv nv).trans hS.1, (hgrow.cell_far _ lv nv).trans hS.2.1, (hgrow.cell_far _ lv nv).trans hS.2.2.1, (hgrow.cell_far _ lv nv).trans hS.2.2.2⟩ (fun hS => ?_)
                          clear hK K hown hgrow hat hcalm hRN hLN
                          try simp only [Act.put, sB, sC, sD]
                          try simp only [Act.put, sB, sC, sD]
                          refine Till_turn (by kernel_rfl) ?_
                          refine wpAnyH_take (i := 10) (oi := ⟨some 6, Op.assign (Operand.tmp 148), 22, "law.go:100", #[eD 9, eC 9, eP 0, eP 1, eP 2, eP 3, eP 4, eP 5, eP 6, eP 7, eP 8, eP 9], none⟩) (v := ?_) rfl (by kernel_rfl) (by kernel_rfl) (by kernel_rfl) (fun _ _ _ h => h) (Or.inl ⟨by rfl, ?_⟩) trivial ?_
                          rotate_left
                          · (intro w' hSw; (try dsimp only at hSw); go_simp; try with_reducible rfl)
                          try simp only [Act.put, sB, sC, sD]
                          refine wpAnyH_done (by kernel_rfl) ?_ _
                          clear hS y0 y1 y2 y3
                          go_wp2_with fail
                          go_roundg (gk - 1)
                          case measure => omega
                          case rel => exact ⟨c + 1, by omega, by go_num, hBN, bXN, HLN, HRN⟩
                  · exact (hnev1.no (tiS_fits (by omega))).elim
                · have hj : j < S.m := by omega
                  have ej : (j : Int) < (S.m : Int) := by omega
                  obtain rfl := HAA.out (by omega)
                  obtain ⟨ra, rk, s0, rfit, rcs, smost⟩ := HRV.out j hj
                  obtain ⟨mn, ma, ml, mk, mm, mb, mi, mj, s1, s2, s3, s4, _⟩ := smost
                  have c0 := cellB s0 hB (Nat.le_refl _)
                  have c1 := cellB s1 hB (Nat.le_refl _)
                  have c2 := cellB s2 hB (Nat.le_refl _)
                  have c3 := cellB s3 hB (Nat.le_refl _)
                  have c4 := cellB s4 hB (Nat.le_refl _)
                  have HRW : Hid (Fit ra S.n rk ∧ (0 < S.n → ∃ rb ro, ra = some ⟨rb, ro, none⟩ ∧ ∀ c, c < S.n → FAt w rb (ro + c * 4) (S.A j c))) := hide ⟨rfit, rcs⟩
                  clear s0 s1 s2 s3 s4 rfit rcs
                  obtain ⟨W2, hW2⟩ : ∃ W2, wr.alloc (.cells #[.slice ra S.n rk, .bool mn, .slice ma ml mk, .bool mm, .slice mb mi mj] 43) = W2 := ⟨_, rfl⟩
                  obtain ⟨gr, hgr⟩ : ∃ gr, wr.heap.size = gr := ⟨_, rfl⟩
                  have bx : Blk W2 gr 43 #[.slice ra S.n rk, .bool mn, .slice ma ml mk, .bool mm, .slice mb mi mj] := by rw [← hW2, ← hgr]; exact Blk.new _ _ _
                  have sb2 : Below wr.heap.size wr W2 := by rw [← hW2]; exact (Below.refl _ _).alloc (Nat.le_refl _) _
                  have hC2 := HC.out.below sb2
                  have hB2 := hB.trans (sb2.mono hB.size)
                  obtain ⟨W3, hW3⟩ : ∃ W3, W2.alloc (.cells #[.bool false, .slice none 0 0, .bool false, .slice none 0 0] 39) = W3 := ⟨_, rfl⟩
                  obtain ⟨gx, hgx⟩ : ∃ gx, W2.heap.size = gx := ⟨_, rfl⟩
                  have bz : FBox W3 gx 0 := ⟨_, _, _, _, _, _, _, _, (by rw [← hW3, ← hgx]; exact Blk.new _ _ _), FracV.zero _⟩
                  have sb3 : Below gx W2 W3 := by rw [← hW3]; exact (Below.refl _ _).alloc (by omega) _
                  have hgrx : gr < gx := by have := bx.lt; omega
                  have bx3 := bx.below sb3 hgrx
                  have HW2 := hide hW2
                  have HGR := hide hgr
                  have HW3 := hide hW3
                  have HGX := hide hgx
                  have HC2 := hide hC2
                  clear hW2 hgr hW3 hgx sb2 hB HC hC2
                  go_upto_region 10 with (fail)
                  rw [HW2.out, HGR.out]
                  clear HW2 HGR c0 c1 c2 c3 c4
                  go_upto_region 11 with (fail)
                  rw [HW3.out, HGX.out]
                  clear HW3
                  go_wp2_with fail
                  obtain ⟨gk1, hK1⟩ : ∃ K1, K1 = gk := ⟨_, rfl⟩
                  subst hK1
                  go_loopg [67] S.n (fun k v67 wi => ∃ (c : Nat), c + k = S.n ∧ v67 = .int .i64 (c : Int) ∧ Below gx W2 wi ∧ FBox wi gx (sumR c fun k => S.A j k * V k))
                  case atStart => exact ⟨0, by omega, rfl, sb3, bz⟩
                  case round =>
                    clear sb3 bz bx3
                    obtain ⟨c, hck, rfl, hC, hbx⟩ := hrel
                    have hBw : Below w.heap.size w wr := hB2.trans (hC.mono (by have := hB2.size; have := HGX.out; omega))
                    have br := bx.below hC hgrx
                    obtain ⟨zn, za, zl, zk, zm, zb, zi, zj, hblk, hzv⟩ := hbx
                    rcases Nat.eq_zero_or_pos gk with h0 | h0
                    · subst h0
                      obtain rfl : c = S.n := by omega
                      clear hck
                      obtain ⟨z0, z1, z2, z3, -⟩ := hblk.c4
                      have r0 : wr.cell? ⟨gr, 0, none⟩ = some (.slice ra S.n rk) := br.cell 0
                      obtain ⟨WA, hWA⟩ : ∃ WA, wr.alloc (.cells #[.slice ra S.n rk, .bool zn, .slice za zl zk, .bool zm, .slice zb zi zj] 43) = WA := ⟨_, rfl⟩
                      have hbA : Below wr.heap.size wr WA := by rw [← hWA]; exact (Below.refl _ _).alloc (Nat.le_refl _) _
                      have hCr : RowsC WA w.heap.size _ (tiS S V j) := (HC2.out.below (by rw [HGX.out]; exact hC)).below hbA
                      obtain ⟨xs, y1, y2, y3⟩ := hCr
                      have hlow : ∀ g, Value.ownBlock _ = some g → w.heap.size ≤ g ∧ g < WA.heap.size := y1.lt
                      obtain ⟨i0, hi0, hz0, hz1, hz2⟩ := info_parts infoRw
                      have hBA : Below w.heap.size w WA := hBw.trans (hbA.mono hBw.size)
                      have hbase := hBA.size
                      have hzA : FracV WA (.agg #[.bool zn, .slice za zl zk, .bool zm, .slice zb zi zj]) (sumR S.n fun k => S.A j k * V k) := hzv.below hbA (Nat.le_refl _)
                      have hnw : ∀ d u, [Value.slice ra S.n rk, .bool zn, .slice za zl zk, .bool zm, .slice zb zi zj][d]? = some u → WA.cell? ((⟨wr.heap.size, 0, none⟩ : Addr).add d) = some u := by rw [← hWA]; exact news_five _ _ _ _ _ _ _
                      obtain ⟨gA, hgA⟩ : ∃ gA, wr.heap.size = gA := ⟨_, rfl⟩
                      rw [hgA] at hnw
                      have HWA := hide hWA
                      have HGA := hide hgA
                      have HY1 := hide y1
                      have HY2 := hide y2
                      have HY3 := hide y3
                      have HNW := hide hnw
                      have HZU := hide zeroRw_calm
                      have HNU := hide (row_calm ra S.n rk zn za zl zk zm zb zi zj)
                      have HBA := hide hBA
                      have HZA := hide hzA
                      have HLW := hide hlow
                      clear hWA hgA y1 y2 y3 hnw hBA hzA hlow hbA hzv
                      go_wp2_with (at_builtin; try (rw [HWA.out]); try (rw [HGA.out]); refine wpList_append_calm _ rfl (.tmp 83) (.tmp 88) 22 rfl w.heap.size 43 i0 (.agg #[.slice none 0 0, .bool false, .slice none 0 0, .bool false, .slice none 0 0]) 5 88 Tryz.underlying22 hi0 hz0 hz1 hz2 rfl (by decide) _ j xs rfl HY1.out ⟨gA, 0, none⟩ 1 1 [.slice ra S.n rk, .bool zn, .slice za zl zk, .bool zm, .slice zb zi zj] rfl rfl HNW.out ?c0 ?c1 ?c2 hbase HY2.out HNU.out HZU.out ?_)
                      case c0 => simp [Value.oneCell']
                      case c1 => unfold maxLen; omega
                      case c2 => omega
                      intro v' w9 hown hgrow hat hcalm
                      have hRC : RowsC w9 w.heap.size v' (tiS S V (j + 1)) := RowsC.grow (S := tiS S V j) (k := 1) rfl HY1.out HY2.out HY3.out rfl rfl (fun i c _ _ => rfl) (fun i _ => rfl) hown hgrow hat hcalm (fun d hd => by
                        obtain rfl : d = 0 := by omega
                        refine ⟨ra, rk, zn, za, zl, zk, zm, zb, zi, zj, fun e u hu => by rw [Nat.zero_mul, Nat.zero_add]; exact hu, HRW.out.1, fun hn => ?_, ?_⟩
                        · obtain ⟨rb, ro, e, hF⟩ := HRW.out.2 hn
                          refine ⟨rb, ro, e, fun e => by have h1 := (HLW.out rb e).1; have h2 := (hF 0 hn).lt; omega, fun c hc => ?_⟩
                          show FAt WA rb (ro + c * 4) (if j + 0 < S.m then S.A (j + 0) c else _)
                          rw [Nat.add_zero, if_pos hj]
                          exact (hF c hc).below HBA.out (Nat.le_refl _)
                        · show FracV WA _ (if j + 0 < S.m then sumR S.n (fun c => S.A (j + 0) c * V c) else _)
                          rw [Nat.add_zero, if_pos hj]
                          exact HZA.out)
                      have hB9 : Below w.heap.size w w9 := HBA.out.grown hgrow hbase (fun k hk => (HLW.out k hk).1)
                      have HRC := hide hRC
                      clear hown hgrow hat hcalm hRC r0 z0 z1 z2 z3
                      go_wp2_with fail
                      go_roundg (gk1 - 1)
                      case measure => omega
                      case rel => exact ⟨j + 1, by omega, by go_num, hB9, HRC⟩
                    · have hc : c < S.n := by omega
                      have ec : (c : Int) < (S.n : Int) := by omega
                      obtain ⟨rb, ro, rfl, hrow⟩ := HRW.out.2 (by omega)
                      obtain ⟨vb, vo, rfl, hvat⟩ := HVA.out (by omega)
                      obtain ⟨xn, xa, xl, xk, xm, xb, xi, xj, x0, x1, x2, x3, hx⟩ := (hrow c hc).below hBw (Nat.le_refl _)
                      obtain ⟨yn, ya, yl, yk, ym, yb, yi, yj, y0, y1, y2, y3, hy⟩ := (hvat c hc).below hBw (Nat.le_refl _)
                      have zx : Qz (S.A j c) := (HSA.out j c hj hc).z (by decide)
                      have zy : Qz (V c) := (HVQ.out c hc).z (by decide)
                      have zp : Qz (S.A j c * V c) := (Qn.mul (HSA.out j c hj hc) (HVQ.out c hc)).z (by decide)
                      have zs : Qz (sumR c fun k => S.A j k * V k) := (tiS_part h6 HSA.out HVQ.out hj (Nat.le_of_lt hc)).z (by decide)
                      have hsum : (sumR (c + 1) fun k => S.A j k * V k) = (sumR c fun k => S.A j k * V k) + S.A j c * V c := rfl
                      obtain ⟨q, hq⟩ : ∃ q, (sumR c fun k => S.A j k * V k) = q := ⟨_, rfl⟩
                      rw [hq] at hsum zs hzv
                      have HSUM := hide hsum
                      replace hrow := hide hrow
                      replace hvat := hide hvat
                      obtain ⟨z0, z1, z2, z3, -⟩ := hblk.c4
                      have r0 : wr.cell? ⟨gr, 0, none⟩ = some (.slice (some ⟨rb, ro, none⟩) S.n rk) := br.cell 0
                      have hbx : FBox wr gx q := ⟨zn, za, zl, zk, zm, zb, zi, zj, hblk, hzv⟩
                      clear hq hsum hblk br
                      go_upto_region 14 with (fail)
                      refine wp_region_till (S := fun w' => w'.cell? ⟨gx, 0, none⟩ = some (.bool zn) ∧ w'.cell? ⟨gx, 1, none⟩ = some (.slice za zl zk) ∧ w'.cell? ⟨gx, 2, none⟩ = some (.bool zm) ∧ w'.cell? ⟨gx, 3, none⟩ = some (.slice zb zi zj) ∧ w'.cell? ⟨gr, 0, none⟩ = some (.slice (some ⟨rb, ro, none⟩) S.n rk) ∧ w'.cell? ⟨rb, ro + c * 4, none⟩ = some (.bool xn) ∧ w'.cell? ⟨rb, ro + c * 4 + 1, none⟩ = some (.slice xa xl xk) ∧ w'.cell? ⟨rb, ro + c * 4 + 2, none⟩ = some (.bool xm) ∧ w'.cell? ⟨rb, ro + c * 4 + 3, none⟩ = some (.slice xb xi xj) ∧ w'.cell? ⟨vb, vo + c * 4, none⟩ = some (.bool yn) ∧ w'.cell? ⟨vb, vo + c * 4 + 1, none⟩ = some (.slice ya yl yk) ∧ w'.cell? ⟨vb, vo + c * 4 + 2, none⟩ = some (.bool ym) ∧ w'.cell? ⟨vb, vo + c * 4 + 3, none⟩ = some (.slice yb yi yj) ∧ Below wr.heap.size wr w') (fun i => decide (i < 12)) (by kernel_rfl) (⟨z0, z1, z2, z3, r0, x0, x1, x2, x3, y0, y1, y2, y3, (Below.refl _ _).drew⟩) (fun hS => ?_)
                      refine Till_take (i := 0) (oi := ⟨some 70, Op.load 39 (Operand.tmp 9), 39, "law.go:89", #[], none⟩) (v := ?_) rfl (by kernel_rfl) (by kernel_rfl) (by kernel_rfl) (fun _ _ _ h => h) rfl (by kernel_rfl) (Or.inl ⟨by rfl, ?_⟩) hS ?_
                      rotate_left
                      · (intro w' hSw; (try dsimp only at hSw); go_simp; try with_reducible rfl)
                      try simp only [Act.put, sB, sC, sD]
                      refine Till_take (i := 1) (oi := ⟨some 71, Op.fieldAddr 43 (Operand.tmp 8) 0, 0, "law.go:89", #[], none⟩) (v := ?_) rfl (by kernel_rfl) (by kernel_rfl) (by kernel_rfl) (fun _ _ _ h => h) rfl (by kernel_rfl) (Or.inl ⟨by rfl, ?_⟩) hS ?_
                      rotate_left
                      · (intro w' hSw; (try dsimp only at hSw); go_simp; try with_reducible rfl)
                      try simp only [Act.put, sB, sC, sD]
                      refine Till_take (i := 2) (oi := ⟨some 72, Op.load 25 (Operand.tmp 71), 25, "law.go:89", #[eD 1], none⟩) (v := ?_) rfl (by kernel_rfl) (by kernel_rfl) (by kernel_rfl) (fun _ _ _ h => h) rfl (by kernel_rfl) (Or.inl ⟨by rfl, ?_⟩) hS ?_
                      rotate_left
                      · (intro w' hSw; (try dsimp only at hSw); go_simp; try with_reducible rfl)
                      try simp only [Act.put, sB, sC, sD]
                      refine Till_take (i := 3) (oi := ⟨some 73, Op.move (Operand.tmp 10), 3, "law.go:89", #[], none⟩) (v := ?_) rfl (by kernel_rfl) (by kernel_rfl) (by kernel_rfl) (fun _ _ _ h => h) rfl (by kernel_rfl) (Or.inl ⟨by rfl, ?_⟩) hS ?_
                      rotate_left
                      · (intro w' hSw; (try dsimp only at hSw); go_simp; try with_reducible rfl)
                      try simp only [Act.put, sB, sC, sD]
                      refine Till_take (i := 4) (oi := ⟨some 74, Op.indexAddr 25 (Operand.tmp 72) (Operand.tmp 73), 0, "law.go:89", #[eD 2, eD 3], none⟩) (v := ?_) rfl (by kernel_rfl) (by kernel_rfl) (by kernel_rfl) (fun _ _ _ h => h) rfl (by kernel_rfl) (Or.inl ⟨by rfl, ?_⟩) hS ?_
                      rotate_left
                      · (intro w' hSw; (try dsimp only at hSw); go_simp; try with_reducible rfl)
                      try simp only [Act.put, sB, sC, sD]
                      refine Till_take (i := 5) (oi := ⟨some 75, Op.load 39 (Operand.tmp 74), 39, "law.go:89", #[eD 4], none⟩) (v := ?_) rfl (by kernel_rfl) (by kernel_rfl) (by kernel_rfl) (fun _ _ _ h => h) rfl (by kernel_rfl) (Or.inl ⟨by rfl, ?_⟩) hS ?_
                      rotate_left
                      · (intro w' hSw; (try dsimp only at hSw); go_simp; try with_reducible rfl)
                      try simp only [Act.put, sB, sC, sD]
                      refine Till_take (i := 6) (oi := ⟨some 76, Op.move (Operand.tmp 0), 25, "law.go:89", #[], none⟩) (v := ?_) rfl (by kernel_rfl) (by kernel_rfl) (by kernel_rfl) (fun _ _ _ h => h) rfl (by kernel_rfl) (Or.inl ⟨by rfl, ?_⟩) hS ?_
                      rotate_left
                      · (intro w' hSw; (try dsimp only at hSw); go_simp; try with_reducible rfl)
                      try simp only [Act.put, sB, sC, sD]
                      refine Till_take (i := 7) (oi := ⟨some 77, Op.move (Operand.tmp 10), 3, "law.go:89", #[], none⟩) (v := ?_) rfl (by kernel_rfl) (by kernel_rfl) (by kernel_rfl) (fun _ _ _ h => h) rfl (by kernel_rfl) (Or.inl ⟨by rfl, ?_⟩) hS ?_
                      rotate_left
                      · (intro w' hSw; (try dsimp only at hSw); go_simp; try with_reducible rfl)
                      try simp only [Act.put, sB, sC, sD]
                      refine Till_take (i := 8) (oi := ⟨some 78, Op.indexAddr 25 (Operand.tmp 76) (Operand.tmp 77), 0, "law.go:89", #[eD 6, eD 7], none⟩) (v := ?_) rfl (by kernel_rfl) (by kernel_rfl) (by kernel_rfl) (fun _ _ _ h => h) rfl (by kernel_rfl) (Or.inl ⟨by rfl, ?_⟩) hS ?_
                      rotate_left
                      · (intro w' hSw; (try dsimp only at hSw); go_simp; try with_reducible rfl)
                      try simp only [Act.put, sB, sC, sD]
                      refine Till_take (i := 9) (oi := ⟨some 79, Op.load 39 (Operand.tmp 78), 39, "law.go:89", #[eD 8], none⟩) (v := ?_) rfl (by kernel_rfl) (by kernel_rfl) (by kernel_rfl) (fun _ _ _ h => h) rfl (by kernel_rfl) (Or.inl ⟨by rfl, ?_⟩) hS ?_
                      rotate_left
                      · (intro w' hSw; (try dsimp only at hSw); go_simp; try with_reducible rfl)
                      try simp only [Act.put, sB, sC, sD]
                      refine Till_ready (rs := [10]) (by kernel_rfl) (by kernel_rfl) (by simp) ?_
                      refine AllReadyT.cons (o := ⟨some 80, Op.call { callee := Callee.value (Operand.func 15), args := #[Operand.tmp 75, Operand.tmp 79], argTypes := #[39, 39] }, 39, "law.go:89", #[eD 5, eD 9], none⟩) rfl (fun K hK => ?_) AllReadyT.nil
                      go_simp
                      (go_at_call 15; (with_reducible refine (FMul_any _ (hx.below (hS.2.2.2.2.2.2.2.2.2.2.2.2.2) (Nat.le_refl _)) (hy.below (hS.2.2.2.2.2.2.2.2.2.2.2.2.2) (Nat.le_refl _)) zx zy).mono ?_); rintro e wP ⟨rP, rfl, hP, hb1⟩)
                      go_wp2_with fail
                      refine hK.out _ _ (keepZ13 hS hb1) (fun hS => ?_)
                      clear hK K hb1
                      try simp only [Act.put, sB, sC, sD]
                      refine Till_ready (rs := [11]) (by kernel_rfl) (by kernel_rfl) (by simp) ?_
                      refine AllReadyT.cons (o := ⟨some 81, Op.call { callee := Callee.value (Operand.func 14), args := #[Operand.tmp 70, Operand.tmp 80], argTypes := #[39, 39] }, 39, "law.go:89", #[eD 0, eD 10, eC 10], none⟩) rfl (fun K hK => ?_) AllReadyT.nil
                      go_simp
                      (go_at_call 14; (with_reducible refine (FAdd_any _ (hzv.below (hS.2.2.2.2.2.2.2.2.2.2.2.2.2) (Nat.le_refl _)) hP zs zp).mono ?_); rintro e wN ⟨rN, rfl, hN, hb1⟩)
                      obtain ⟨un, ua, ul, uk, um, ub, ui, uj, rfl, -, -⟩ := FracV.parts hN
                      go_wp2_with fail
                      refine hK.out _ _ (keepZ13 hS hb1) (fun hS => ?_)
                      clear hK K hb1
                      try simp only [Act.put, sB, sC, sD]
                      refine Till_turn (by kernel_rfl) ?_
                      refine wpAnyH_ready (rs := [12]) (by kernel_rfl) (by simp) ?_
                      refine AllReadyH.cons (o := ⟨none, Op.store 39 (Operand.tmp 9) (Operand.tmp 81), 0, "law.go:89", #[eD 11, eC 11, eP 0, eP 1, eP 2, eP 3, eP 4, eP 5, eP 6, eP 7, eP 8, eP 9, eP 10, eP 11], none⟩) rfl (fun K hK => ?_) AllReadyH.nil
                      have hb3 := hbx.below (hS.2.2.2.2.2.2.2.2.2.2.2.2.2) (Nat.le_refl _)
                      obtain ⟨_, _, _, _, _, _, _, _, hblk3, _⟩ := hb3
                      have hb3 := hbx.below (hS.2.2.2.2.2.2.2.2.2.2.2.2.2) (Nat.le_refl _)
                      obtain ⟨t0, t1, t2, t3, tf⟩ := hblk3.c4
                      have f0 := tf 0
                      have f1 := tf 1
                      have f2 := tf 2
                      have f3 := tf 3
                      obtain ⟨W3, hW3⟩ : ∃ W3, (((wN.setCell ⟨gx, 0, none⟩ (.bool un)).setCell ⟨gx, 1, none⟩ (.slice ua ul uk)).setCell ⟨gx, 2, none⟩ (.bool um)).setCell ⟨gx, 3, none⟩ (.slice ub ui uj) = W3 := ⟨_, rfl⟩
                      have hb4 : FBox W3 gx (q + S.A j c * V c) := by rw [← hW3]; exact hb3.put hN
                      have hB4 : Below gx W2 W3 := by rw [← hW3]; exact set4b (hC.trans ((hS.2.2.2.2.2.2.2.2.2.2.2.2.2).mono (Nat.le_of_lt hbx.lt))) (Nat.le_refl _) _ _ _ _
                      have HW3 := hide hW3
                      clear hW3 tf
                      go_simp
                      refine hK.out _ _ trivial (fun _ => ?_)
                      clear hK K t0 t1 t2 t3 f0 f1 f2 f3
                      try simp only [Act.put, sB, sC, sD]
                      refine wpAnyH_done (by kernel_rfl) ?_ _
                      rw [HW3.out]
                      clear HW3 hS z0 z1 z2 z3 r0 x0 x1 x2 x3 y0 y1 y2 y3
                      go_wp2_with fail
                      go_roundg (gk - 1)
                      case measure => omega
                      case rel => exact ⟨c + 1, by omega, by go_num, hB4, by rw [HSUM.out]; exact hb4⟩
end Go.Proofs.YtphjffbldhhdiaaGreatDoor
