/- collatorlaw05.parts, collatorlaw05.clean: by their contracts. -/
import Derived.Test.YtajlibegalbbmaaDoorTLexLaw
namespace Go.Proofs.YtajlibegalbbmaaDoor
open Go.RowKit


mutual
/-- How many parts a tree has, up to a number. -/
def partsT : Tr → Int → Int
  | .mk _ _ kids, most => partsL kids most 1
def partsL : List Tr → Int → Int → Int
  | [], _, n => n
  | k :: r, most, n => if most < n then n else partsL r most (n + partsT k (most - n))
end
mutual
/-- How many parts a tree has. -/
def nodesT : Tr → Nat
  | .mk _ _ kids => 1 + nodesL kids
def nodesL : List Tr → Nat
  | [] => 0
  | k :: r => nodesT k + nodesL r
end
def PartsOk (t : Tr) : Prop := ∀ most : Int, 0 ≤ most → 1 ≤ partsT t most ∧ partsT t most ≤ most + 1 ∧ (partsT t most ≤ most → partsT t most = (nodesT t : Int))
theorem partsL_ok {kids : List Tr} (ih : ∀ k ∈ kids, PartsOk k) : ∀ (ks : List Tr), (∀ k ∈ ks, k ∈ kids) → ∀ (most n : Int), 1 ≤ n → n ≤ most + 1 → 1 ≤ partsL ks most n ∧ partsL ks most n ≤ most + 1 ∧ (partsL ks most n ≤ most → partsL ks most n = n + (nodesL ks : Int))
  | [], _, most, n, h1, h2 => by simp only [partsL, nodesL]; omega
  | k :: ks, hk, most, n, h1, h2 => by
    simp only [partsL]
    split
    · omega
    · rename_i hn
      obtain ⟨p1, p2, p3⟩ := ih k (hk k (by simp)) (most - n) (by omega)
      obtain ⟨q1, q2, q3⟩ := partsL_ok ih ks (fun x hx => hk x (by simp [hx])) most (n + partsT k (most - n)) (by omega) (by omega)
      refine ⟨q1, q2, fun h => ?_⟩
      have e := q3 h
      have e2 := p3 (by omega)
      rw [e, e2]
      simp only [nodesL]
      omega
theorem parts_ok : ∀ t, PartsOk t := by
  refine Tr.ind fun l tk kids ih => ?_
  intro most hm
  obtain ⟨h1, h2, h3⟩ := partsL_ok ih kids (fun _ h => h) most 1 (by omega) (by omega)
  simp only [partsT, nodesT]
  refine ⟨h1, h2, fun h => ?_⟩
  rw [h3 h]
  omega
theorem size_nodes : ∀ t : Tr, t.size ≤ 2 * nodesT t := by
  refine Tr.ind fun l tk kids ih => ?_
  have key : ∀ (ks : List Tr), (∀ k ∈ ks, k ∈ kids) → sizes ks ≤ 2 * nodesL ks := by
    intro ks
    induction ks with
    | nil => intro _; simp [sizes, nodesL]
    | cons k ks ik =>
      intro hk
      have h1 := ih k (hk k (by simp))
      have h2 := ik (fun x hx => hk x (by simp [hx]))
      simp only [sizes, nodesL]
      omega
  have := key kids (fun _ h => h)
  simp only [Tr.size, nodesT]
  split <;> omega
theorem partsL_drop {kids : List Tr} {i : Nat} (hi : i < kids.length) {most n : Int} (hn : ¬ most < n) : partsL (kids.drop i) most n = partsL (kids.drop (i + 1)) most (n + partsT kids[i] (most - n)) := by
  rw [List.drop_eq_getElem_cons hi, partsL, if_neg hn]
theorem partsL_stop {kids : List Tr} {i : Nat} (hi : i < kids.length) {most n : Int} (hn : most < n) : partsL (kids.drop i) most n = n := by
  rw [List.drop_eq_getElem_cons hi, partsL, if_pos hn]

set_option maxRecDepth 100000 in
set_option maxHeartbeats 1600000 in
theorem parts_any : ∀ (t : Tr) (ka : Option Addr) (cap : Nat) (most : Int) (w : World), t.kids.length ≤ cap → CapOk ka cap → RepK w (fun _ => True) t.kids ka → 0 ≤ most → most ≤ 1000 →
    Calls Tryd.prog 17 #[trV t.l t.tk ka t.kids.length cap, .int .i64 most] w fun e w' => e = .returned (.int .i64 (partsT t most)) ∧ Below w.heap.size w w' := by
  refine Tr.ind fun l tk kids ih => ?_
  intro ka cap most w hc hm hr hm0 hm1
  simp only [Tr.l, Tr.tk, Tr.kids] at hc hm hr ⊢
  generalize hP : (fun (e : Ending) (w' : World) => e = .returned (.int .i64 (partsT (Tr.mk l tk kids) most)) ∧ Below w.heap.size w w') = Post
  have HP := hide hP
  clear hP
  obtain ⟨W, hW⟩ : ∃ W, w.alloc (.cells #[.bool l, .int .i64 tk.1, .string ⟨tk.2.1.toArray⟩, .int .i64 tk.2.2, .slice ka kids.length cap] tT) = W := ⟨_, rfl⟩
  have hb : Below w.heap.size w W := by rw [← hW]; exact (Below.refl _ _).alloc (Nat.le_refl _) _
  have b1 : Blk W w.heap.size tT #[.bool l, .int .i64 tk.1, .string ⟨tk.2.1.toArray⟩, .int .i64 tk.2.2, .slice ka kids.length cap] := by rw [← hW]; exact Blk.new w _ _
  have HW := hide hW
  clear hW
  replace hr := hr.below hb
  have h63 : kids.length ≤ maxLen := Nat.le_trans hc hm.1
  unfold maxLen at h63
  simp only [trV]
  go_enter Tryd.func17, Tryd.ntmps17
  go_upto_region 1 with (fail)
  rw [HW.out]
  clear HW
  obtain ⟨c0, c1, c2, c3, c4⟩ := b1.c5
  have HE : Hid (partsT (Tr.mk l tk kids) most = partsL kids most 1) := hide rfl
  go_wp2_with fail
  go_loopg [5, 11] kids.length (fun k v5 v11 wr => ∃ (i : Nat) (n : Int), i + k = kids.length ∧ v11 = .int .i64 (i : Int) ∧ v5 = .int .i64 n ∧ Hid (partsL kids most 1 = partsL (kids.drop i) most n) ∧ 1 ≤ n ∧ n ≤ most + 1 ∧ Below W.heap.size W wr)
  case atStart => exact ⟨0, 1, by omega, rfl, rfl, hide rfl, by omega, by omega, Below.refl _ _⟩
  case round =>
    obtain ⟨i, n, hik, rfl, rfl, HN, hn1, hn2, hbr⟩ := hrel
    have HI := hide hik
    rcases Nat.lt_or_ge i kids.length with hi | hi
    · obtain ⟨b, off, rfl, -, -, ia, ic, m1, m2, m3, x0, x1, x2, x3, x4⟩ := (hr.below hbr).at hi
      have hc1 := ih kids[i] (List.getElem_mem hi)
      have HD := hide (fun (h : ¬ most < n) => partsL_drop (kids := kids) hi h)
      have HS := hide (fun (h : most < n) => partsL_stop (kids := kids) hi h)
      have hok := parts_ok kids[i] (most - n)
      clear hik ih
      have i1 : (0 : Int) ≤ (i : Int) := by omega
      have i2 : (i : Int) < (kids.length : Int) := by omega
      generalize kids[i] = q at hc1 HD hok m1 m2 m3 x0 x1 x2 x3 x4
      by_cases hmn : most < n
      · have e1 := decide_eq_true hmn
        have HF := hide (HS.out hmn)
        clear hmn
        go_wp2_with fail
        refine (show Post (.returned (.int .i64 n)) _ from ?_)
        rw [← HP.out, HE.out, HN.out, HF.out]
        exact ⟨rfl, hb.trans ((hbr.alloc hbr.size _).mono hb.size)⟩
      · have e1 := decide_eq_false hmn
        obtain ⟨p1, p2, -⟩ := hok (by omega)
        have HF := hide (HD.out hmn)
        have h0 : 0 ≤ most - n := by omega
        have h2 : most - n ≤ 1000 := by omega
        clear hmn hok
        generalize hpq : partsT q (most - n) = pq at p1 p2 HF
        have hc2 := fun (w : World) (h3 : RepK w (fun _ => True) q.kids ia) => hc1 ia ic (most - n) w m1 m2 h3 h0 h2
        rw [hpq] at hc2
        clear hpq HD HS hc1
        go_wp2_with (go_at_call 17; refine (hc2 _ (m3.below ((Below.refl _ _).alloc (Nat.le_refl _) _))).mono ?_; rintro e wN ⟨rfl, hb1⟩)
        have hik := HI.out
        have hbN : Below W.heap.size W wN := hbr.trans (((Below.refl wr.heap.size wr).alloc (Nat.le_refl _) _).trans (hb1.mono (by simp)) |>.mono hbr.size)
        go_roundg (gk - 1)
        case measure => omega
        case rel => exact ⟨i + 1, n + pq, by omega, by go_num, by go_num, hide (by rw [HN.out, HF.out]), by omega, by omega, hbN⟩
    · clear hik ih
      obtain rfl : i = kids.length := by have := HI.out; omega
      rw [List.drop_length] at HN
      go_wp2_with fail
      refine (show Post (.returned (.int .i64 n)) wr from ?_)
      rw [← HP.out, HE.out, HN.out]
      exact ⟨rfl, hb.trans (hbr.mono hb.size)⟩

/-- What clean leaves. -/
def CleanPost (w : World) (t : Tr) (e : Ending) (w' : World) : Prop :=
  ∃ na nc, e = .returned (trV (cleanT t).l (cleanT t).tk na (cleanT t).kids.length nc) ∧ (cleanT t).kids.length ≤ nc ∧ CapOk na nc ∧ RepK w' (fun b => w.heap.size ≤ b) (cleanT t).kids na ∧ Below w.heap.size w w'
theorem cleanL_len : ∀ l : List Tr, (cleanL l).length = l.length
  | [] => rfl
  | t :: r => by simp [cleanL, cleanL_len r]
theorem cleanL_snoc : ∀ (l : List Tr) (t : Tr), cleanL (l ++ [t]) = cleanL l ++ [cleanT t]
  | [], t => rfl
  | x :: l, t => by simp only [List.cons_append, cleanL, cleanL_snoc l t]
theorem clean_take {kids : List Tr} {i : Nat} (hi : i < kids.length) : cleanL (kids.take (i + 1)) = cleanL (kids.take i) ++ [cleanT kids[i]] := by
  rw [List.take_succ_eq_append_getElem hi, cleanL_snoc]

set_option maxRecDepth 100000 in
set_option maxHeartbeats 3200000 in
theorem clean_any : ∀ (t : Tr) (ka : Option Addr) (cap : Nat) (w : World), t.size ≤ 1000000 → t.kids.length ≤ cap → CapOk ka cap → RepK w (fun _ => True) t.kids ka →
    Calls Tryd.prog 22 #[trV t.l t.tk ka t.kids.length cap] w (CleanPost w t) := by
  refine Tr.ind fun l tk kids ih => ?_
  intro ka cap w hsz hc hm hr
  simp only [Tr.l, Tr.tk, Tr.kids] at hc hm hr ⊢
  generalize hP : CleanPost w (Tr.mk l tk kids) = Post
  have HP := hide hP
  clear hP
  obtain ⟨W, hW⟩ : ∃ W, (w.alloc (.cells #[.bool l, .int .i64 tk.1, .string ⟨tk.2.1.toArray⟩, .int .i64 tk.2.2, .slice ka kids.length cap] tT)).alloc (.cells #[.bool false, .int .i64 0, .string ⟨#[]⟩, .int .i64 0, .slice none 0 0] tT) = W := ⟨_, rfl⟩
  have hb : Below w.heap.size w W := by rw [← hW]; exact ((Below.refl _ _).alloc (Nat.le_refl _) _).alloc (by simp) _
  have hWs : W.heap.size = w.heap.size + 1 + 1 := by rw [← hW]; simp
  have b1 : Blk W w.heap.size tT #[.bool l, .int .i64 tk.1, .string ⟨tk.2.1.toArray⟩, .int .i64 tk.2.2, .slice ka kids.length cap] := by rw [← hW]; exact (Blk.new w _ _).alloc _
  have b2 : Blk W (w.heap.size + 1) tT #[.bool false, .int .i64 0, .string ⟨#[]⟩, .int .i64 0, .slice none 0 0] := by
    rw [← hW]
    have h := Blk.new (w.alloc (.cells #[.bool l, .int .i64 tk.1, .string ⟨tk.2.1.toArray⟩, .int .i64 tk.2.2, .slice ka kids.length cap] tT)) tT #[.bool false, .int .i64 0, .string ⟨#[]⟩, .int .i64 0, .slice none 0 0]
    rwa [World.size_alloc] at h
  have HW := hide hW
  clear hW
  have hrm := (hr.mark).far hb (fun _ h => h)
  have h63 : kids.length ≤ maxLen := Nat.le_trans hc hm.1
  unfold maxLen at h63
  simp only [trV]
  go_enter Tryd.func22, Tryd.ntmps22
  go_upto_region 1 with (fail)
  rw [HW.out]
  clear HW hr
  obtain ⟨c0, c1, c2, c3, c4⟩ := b1.c5
  obtain ⟨d0, d1, d2, d3, d4⟩ := b2.c5
  have f0 := b2.frozen 0
  have f1 := b2.frozen 1
  have f2 := b2.frozen 2
  have f3 := b2.frozen 3
  have f4 := b2.frozen 4
  cases l with
  | false =>
    go_wp2_with fail
    have hq : cleanT (.mk false tk kids) = .mk false tk [] := clean_atom tk kids
    have bF := ((((b2.set_ 0 (.bool false)).set_ 1 (.int .i64 tk.1)).set_ 2 (.string ⟨tk.2.1.toArray⟩)).set_ 3 (.int .i64 tk.2.2)).set_ 4 (.slice none 0 0)
    have hbF := ((((hb.setCell (p := ⟨w.heap.size + 1, 0, none⟩) (by simp) (.bool false)).setCell (p := ⟨w.heap.size + 1, 1, none⟩) (by simp) (.int .i64 tk.1)).setCell (p := ⟨w.heap.size + 1, 2, none⟩) (by simp) (.string ⟨tk.2.1.toArray⟩)).setCell (p := ⟨w.heap.size + 1, 3, none⟩) (by simp) (.int .i64 tk.2.2)).setCell (p := ⟨w.heap.size + 1, 4, none⟩) (by simp) (.slice none 0 0)
    generalize ((((W.setCell ⟨w.heap.size + 1, 0, none⟩ (.bool false)).setCell ⟨w.heap.size + 1, 1, none⟩ (.int .i64 tk.1)).setCell ⟨w.heap.size + 1, 2, none⟩ (.string ⟨tk.2.1.toArray⟩)).setCell ⟨w.heap.size + 1, 3, none⟩ (.int .i64 tk.2.2)).setCell ⟨w.heap.size + 1, 4, none⟩ (.slice none 0 0) = WF at bF hbF ⊢
    obtain ⟨y0, y1, y2, y3, y4⟩ := bF.c5
    refine bodyPost_ret (v := .agg #[.bool false, .int .i64 tk.1, .string ⟨tk.2.1.toArray⟩, .int .i64 tk.2.2, .slice none 0 0]) (by simp [results, Tryd.results22, go_sem, y0, y1, y2, y3, y4]) rfl (show Post (.returned _) WF from ?_)
    rw [← HP.out]
    unfold CleanPost
    rw [hq]
    exact ⟨none, 0, rfl, Nat.le_refl _, ⟨Nat.zero_le _, fun _ => rfl⟩, by simp [Tr.kids, RepK], hbF⟩
  | true =>
    have hsk2 : (Tr.mk true tk kids).size = 2 + sizes kids := by simp [Tr.size]
    rw [hsk2] at hsz
    have hkz := sizes_len kids
    obtain ⟨W1, hW1⟩ : ∃ W1, W.alloc (.cells #[.bool true, .int .i64 1, .string ⟨#[40]⟩, .int .i64 0, .slice none 0 0] tT) = W1 := ⟨_, rfl⟩
    have hb1 : Below W.heap.size W W1 := by rw [← hW1]; exact (Below.refl _ _).alloc (Nat.le_refl _) _
    have b3 : Blk W1 (w.heap.size + 1 + 1) tT #[.bool true, .int .i64 1, .string ⟨#[40]⟩, .int .i64 0, .slice none 0 0] := by
      rw [← hW1]
      have h := Blk.new W tT #[.bool true, .int .i64 1, .string ⟨#[40]⟩, .int .i64 0, .slice none 0 0]
      rwa [hWs] at h
    have HW1 := hide hW1
    clear hW1
    go_upto_region 4 with (fail)
    rw [HW1.out]
    clear HW1
    have hbB : Below w.heap.size w W1 := hb.trans (hb1.mono hb.size)
    replace b1 := b1.below hb1 b1.lt
    replace b2 := b2.below hb1 b2.lt
    replace hrm := hrm.below hb1
    obtain ⟨c0, c1, c2, c3, c4⟩ := b1.c5
    clear hb hb1 d0 d1 d2 d3 d4 f0 f1 f2 f3 f4
    go_wp2_with fail
    go_loopg [17] kids.length (fun k v17 wr => ∃ (i : Nat) (va : Option Addr) (vc : Nat) (ks : List Value), i + k = kids.length ∧ v17 = .int .i64 (i : Int) ∧ Below w.heap.size w wr ∧ Below (w.heap.size + 1 + 1) W1 wr ∧
      Blk wr (w.heap.size + 1 + 1) tT #[.bool true, .int .i64 1, .string ⟨#[40]⟩, .int .i64 0, .slice va i vc] ∧ wr.ownsRow (w.heap.size + 1 + 1 + 1) tT 5 (.slice va i vc) i ks ∧ RepL wr (fun b => w.heap.size + 1 + 1 < b ∧ (Value.slice va i vc).ownBlock ≠ some b) (cleanL (kids.take i)) ks)
    case atStart => exact ⟨0, none, 0, [], by omega, rfl, hbB, (Below.refl _ _), b3, World.ownsRow_nil _ _ _ _, by simp [cleanL, RepL]⟩
    case round =>
      obtain ⟨i, va, vc, ks, hik, rfl, hbr, hbr1, b3, ho, hrl⟩ := hrel
      have HI := hide hik
      rcases Nat.lt_or_ge i kids.length with hi | hi
      · obtain ⟨b, off, rfl, -, -, ia, ic, m1, m2, m3, x0, x1, x2, x3, x4⟩ := (hrm.far hbr1 (fun b (h : b < w.heap.size) => by omega)).at hi
        have ht := clean_take hi
        have ihq := ih kids[i] (List.getElem_mem hi)
        have hqs := sizes_take hi
        have hqp := sizes_part kids (i + 1)
        clear hik ih
        have i1 : (0 : Int) ≤ (i : Int) := by omega
        have i2 : (i : Int) < (kids.length : Int) := by omega
        generalize kids[i] = q at ht ihq hqs m1 m2 m3 x0 x1 x2 x3 x4
        obtain ⟨W7, hW7⟩ : ∃ W7, wr.alloc (.cells #[.bool q.l, .int .i64 q.tk.1, .string ⟨q.tk.2.1.toArray⟩, .int .i64 q.tk.2.2, .slice ia q.kids.length ic] tT) = W7 := ⟨_, rfl⟩
        have hb7 : Below wr.heap.size wr W7 := by rw [← hW7]; exact (Below.refl _ _).alloc (Nat.le_refl _) _
        have b7 : Blk W7 wr.heap.size tT #[.bool q.l, .int .i64 q.tk.1, .string ⟨q.tk.2.1.toArray⟩, .int .i64 q.tk.2.2, .slice ia q.kids.length ic] := by rw [← hW7]; exact Blk.new _ _ _
        have HW7 := hide hW7
        clear hW7
        go_upto_region 7 with (fail)
        rw [HW7.out]
        clear HW7 x0 x1 x2 x3 x4
        obtain ⟨x0, x1, x2, x3, x4⟩ := b7.c5
        obtain ⟨-, -, -, -, g4⟩ := b3.c5
        replace g4 := ck hb7 g4
        replace m3 := m3.below hb7
        obtain ⟨i0, hi0, hz0, hz1, hz2⟩ := info_parts infoTr
        generalize hG : wr.heap.size = G at b7 x0 x1 x2 x3 x4 ⊢
        have hq9 : q.size ≤ 1000000 := by omega
        refine wp_region_till (S := fun w' => w'.cell? ⟨w.heap.size + 1 + 1, 4, none⟩ = some (.slice va i vc) ∧ w'.cell? ⟨G, 0, none⟩ = some (.bool q.l) ∧ w'.cell? ⟨G, 1, none⟩ = some (.int .i64 q.tk.1) ∧ w'.cell? ⟨G, 2, none⟩ = some (.string ⟨q.tk.2.1.toArray⟩) ∧ w'.cell? ⟨G, 3, none⟩ = some (.int .i64 q.tk.2.2) ∧ w'.cell? ⟨G, 4, none⟩ = some (.slice ia q.kids.length ic)) (fun i => decide (i < 6)) (by kernel_rfl) (⟨g4, x0, x1, x2, x3, x4⟩) (fun hS => ?_)
        refine Till_take (i := 0) (oi := { dst := some 21, op := Op.fieldAddr 45 (Operand.tmp 3) 2, type := 0, pos := "law.go:83", after := #[], guard := none }) (v := ?_) rfl (by kernel_rfl) (by kernel_rfl) (by kernel_rfl) (fun _ _ _ h => h) rfl (by kernel_rfl) (Or.inl ⟨by rfl, ?_⟩) hS ?_
        rotate_left
        · (intro w' hSw; (try dsimp only at hSw); go_simp; try with_reducible rfl)
        try simp only [Act.put, List.setIfInBounds_toArray, List.set_cons_zero, List.set_cons_succ]
        refine Till_take (i := 1) (oi := { dst := some 22, op := Op.load 37 (Operand.tmp 21), type := 37, pos := "law.go:83", after := #[{ on := 0, ground := Ground.data }], guard := none }) (v := ?_) rfl (by kernel_rfl) (by kernel_rfl) (by kernel_rfl) (fun _ _ _ h => h) rfl (by kernel_rfl) (Or.inl ⟨by rfl, ?_⟩) hS ?_
        rotate_left
        · (intro w' hSw; (try dsimp only at hSw); go_simp; try with_reducible rfl)
        try simp only [Act.put, List.setIfInBounds_toArray, List.set_cons_zero, List.set_cons_succ]
        refine Till_take (i := 2) (oi := { dst := some 23, op := Op.load 45 (Operand.tmp 5), type := 45, pos := "law.go:83", after := #[], guard := none }) (v := ?_) rfl (by kernel_rfl) (by kernel_rfl) (by kernel_rfl) (fun _ _ _ h => h) rfl (by kernel_rfl) (Or.inl ⟨by rfl, ?_⟩) hS ?_
        rotate_left
        · (intro w' hSw; (try dsimp only at hSw); go_simp; try with_reducible rfl)
        try simp only [Act.put, List.setIfInBounds_toArray, List.set_cons_zero, List.set_cons_succ]
        refine Till_ready (rs := [3]) (by kernel_rfl) (by kernel_rfl) (by simp) ?_
        refine AllReadyT.cons (o := { dst := some 24, op := Op.call { callee := Callee.value (Operand.func 22), args := #[Operand.tmp 23], argTypes := #[45] }, type := 45, pos := "law.go:83", after := #[{ on := 2, ground := Ground.data }], guard := none }) rfl (fun K hK => ?_) AllReadyT.nil
        go_simp
        refine (ihq ia ic _ hq9 m1 m2 (m3.any.below ((Below.refl _ _).drew))).mono ?_
        rintro e wN ⟨na, nc, rfl, n1, n2, n3, hbN⟩
        have hwN : w.heap.size + 1 + 1 + 1 ≤ wN.heap.size := Nat.le_trans b3.lt (Nat.le_trans hb7.size hbN.size)
        go_wp2_with fail
        refine hK.out _ _ (⟨ck hbN hS.1, ck hbN hS.2.1, ck hbN hS.2.2.1, ck hbN hS.2.2.2.1, ck hbN hS.2.2.2.2.1, ck hbN hS.2.2.2.2.2⟩) (fun hS => ?_)
        clear hK K
        try simp only [Act.put, List.setIfInBounds_toArray, List.set_cons_zero, List.set_cons_succ]
        refine Till_ready (rs := [4]) (by kernel_rfl) (by kernel_rfl) (by simp) ?_
        refine AllReadyT.cons (o := { dst := some 25, op := Op.buildSlice 37 1 #[(0, Operand.tmp 24)], type := 37, pos := "law.go:83", after := #[{ on := 3, ground := Ground.data }], guard := none }) rfl (fun K hK => ?_) AllReadyT.nil
        go_simp
        refine hK.out _ _ (⟨ck ((Below.refl _ _).alloc (Nat.le_refl _) _).drew hS.1, ck ((Below.refl _ _).alloc (Nat.le_refl _) _).drew hS.2.1, ck ((Below.refl _ _).alloc (Nat.le_refl _) _).drew hS.2.2.1, ck ((Below.refl _ _).alloc (Nat.le_refl _) _).drew hS.2.2.2.1, ck ((Below.refl _ _).alloc (Nat.le_refl _) _).drew hS.2.2.2.2.1, ck ((Below.refl _ _).alloc (Nat.le_refl _) _).drew hS.2.2.2.2.2⟩) (fun hS => ?_)
        clear hK K
        try simp only [Act.put, List.setIfInBounds_toArray, List.set_cons_zero, List.set_cons_succ]
        refine Till_ready (rs := [5]) (by kernel_rfl) (by kernel_rfl) (by simp) ?_
        refine AllReadyT.cons (o := { dst := some 26, op := Op.call { callee := Callee.builtin Builtin.append, args := #[Operand.tmp 22, Operand.tmp 25], argTypes := #[37, 37] }, type := 37, pos := "law.go:83", after := #[{ on := 1, ground := Ground.data }, { on := 4, ground := Ground.data }, { on := 3, ground := Ground.chain }], guard := none }) rfl (fun K hK => ?_) AllReadyT.nil
        rw [if_pos (by rfl)]
        have hoN := (ho.kept (row := none) ⟨(hb7.drew.trans (hbN.mono hb7.size)).os, (hb7.drew.trans (hbN.mono hb7.size)).tape, (hb7.drew.trans (hbN.mono hb7.size)).output, (hb7.drew.trans (hbN.mono hb7.size)).size, fun i hi _ => (hb7.drew.trans (hbN.mono hb7.size)).block i hi⟩ (by cases h : (Value.slice va i vc).ownBlock <;> simp))
        refine wp_append_at (.tmp 22) (.tmp 25) 37 rfl (w.heap.size + 1 + 1 + 1) tT i0 (.agg #[.bool false, .int .i64 0, .string ⟨#[]⟩, .int .i64 0, .slice none 0 0]) 5 64 Tryd.underlying37 hi0 hz0 hz1 hz2 rfl (by decide) (.slice va i vc) i ks (by rfl) (hoN.alloc _) ⟨wN.heap.size, 0, none⟩ 1 1 (trCells (cleanT q).l (cleanT q).tk (.slice na (cleanT q).kids.length nc)) (by rfl) rfl (new_cells wN tT (trCells (cleanT q).l (cleanT q).tk (.slice na (cleanT q).kids.length nc)) _ rfl) (oneCell_tr _ _ _ _ _) (by unfold maxLen; omega) (by omega) (Nat.le_trans hwN (by simp)) ?_
        intro v' w3 hown3 hg3 hb3
        obtain ⟨va', vc', rfl⟩ := own_form hown3
        have hoA : (wN.alloc (.cells (trCells (cleanT q).l (cleanT q).tk (.slice na (cleanT q).kids.length nc)).toArray tT)).ownsRow (w.heap.size + 1 + 1 + 1) tT 5 (.slice va i vc) i ks := hoN.alloc _
        have hbA : Below wN.heap.size wN (wN.alloc (.cells (trCells (cleanT q).l (cleanT q).tk (.slice na (cleanT q).kids.length nc)).toArray tT)) := (Below.refl _ _).alloc (Nat.le_refl _) _
        have hb3' := below_grown_row hg3 hoA (Nat.le_trans hwN hbA.size)
        have hrow : ∀ k, (Value.slice va i vc).ownBlock = some k → k < G := fun k hk => by have := (ho.lt k hk).2; omega
        have hGN : G < (wN.alloc (.cells (trCells (cleanT q).l (cleanT q).tk (.slice na (cleanT q).kids.length nc)).toArray tT)).heap.size := by have h1 : W7.heap.size ≤ wN.heap.size := hbN.size; have h4 : G < W7.heap.size := b7.lt; exact Nat.lt_of_lt_of_le h4 (Nat.le_trans h1 hbA.size)
        have hkG := fun (j : Nat) (u : Value) (h : (wN.alloc (.cells (trCells (cleanT q).l (cleanT q).tk (.slice na (cleanT q).kids.length nc)).toArray tT)).cell? ⟨G, j, none⟩ = some u) => (World.cell?_of_block (a := ⟨G, j, none⟩) (hg3.block G hGN (fun e => by have := hrow G e.symm; omega))).trans h
        refine hK.out _ _ ⟨(hb3'.cell (by simp)).trans hS.1, hkG _ _ hS.2.1, hkG _ _ hS.2.2.1, hkG _ _ hS.2.2.2.1, hkG _ _ hS.2.2.2.2.1, hkG _ _ hS.2.2.2.2.2⟩ (fun hS => ?_)
        clear hK K hkG
        try simp only [Act.put, List.setIfInBounds_toArray, List.set_cons_zero, List.set_cons_succ]
        refine Till_turn (by kernel_rfl) ?_
        have b3N : Blk w3 (w.heap.size + 1 + 1) tT #[.bool true, .int .i64 1, .string ⟨#[40]⟩, .int .i64 0, .slice va i vc] := ((((b3.below hb7 b3.lt).drew).below hbN (Nat.lt_of_lt_of_le b3.lt hb7.size)).below hbA hwN).below hb3' (Nat.lt_succ_self _)
        obtain ⟨e0, e1, e2, e3, e4⟩ := b3N.c5
        have e5 := b3N.frozen 4
        refine wpAnyH_take (i := 6) (oi := { dst := some 27, op := Op.fieldAddr 45 (Operand.tmp 3) 2, type := 0, pos := "law.go:83", after := #[{ on := 0, ground := Ground.phase }, { on := 1, ground := Ground.phase }, { on := 2, ground := Ground.phase }, { on := 3, ground := Ground.phase }, { on := 4, ground := Ground.phase }, { on := 5, ground := Ground.phase }], guard := none }) (v := ?_) rfl (by kernel_rfl) (by kernel_rfl) (by kernel_rfl) (fun _ _ _ h => h) (Or.inl ⟨by rfl, ?_⟩) trivial ?_
        rotate_left
        · (intro w' _; go_simp; try with_reducible rfl)
        try simp only [Act.put, List.setIfInBounds_toArray, List.set_cons_zero, List.set_cons_succ]
        refine wpAnyH_ready (rs := [7]) (by kernel_rfl) (by simp) ?_
        refine AllReadyH.cons (o := { dst := none, op := Op.store 37 (Operand.tmp 27) (Operand.tmp 26), type := 0, pos := "law.go:83", after := #[{ on := 6, ground := Ground.data }, { on := 5, ground := Ground.data }, { on := 5, ground := Ground.chain }, { on := 0, ground := Ground.phase }, { on := 1, ground := Ground.phase }, { on := 2, ground := Ground.phase }, { on := 3, ground := Ground.phase }, { on := 4, ground := Ground.phase }, { on := 5, ground := Ground.phase }], guard := none }) rfl (fun K hK => ?_) AllReadyH.nil
        go_simp
        refine hK.out _ _ trivial (fun _ => ?_)
        clear hK K
        try simp only [Act.put, List.setIfInBounds_toArray, List.set_cons_zero, List.set_cons_succ]
        refine wpAnyH_done (by kernel_rfl) ?_ _
        have hvg : ∀ k, (Value.slice va' (i + 1) vc').ownBlock = some k → w.heap.size + 1 + 1 < k := fun k hk => (hown3.lt k hk).1
        have own5 := ownsRow_setCell_other (a := ⟨w.heap.size + 1 + 1, 4, none⟩) hown3 (fun e => absurd (hvg _ e) (Nat.lt_irrefl _)) (.slice va' (i + 1) vc')
        have b5 : Blk (w3.setCell ⟨w.heap.size + 1 + 1, 4, none⟩ (.slice va' (i + 1) vc')) (w.heap.size + 1 + 1) tT #[.bool true, .int .i64 1, .string ⟨#[40]⟩, .int .i64 0, .slice va' (i + 1) vc'] := b3N.set_ 4 _
        have hbr7 : Below wr.heap.size wr wN := hb7.drew.trans (hbN.mono hb7.size)
        have hbrA := hbr7.trans (hbA.mono hbr7.size)
        have h3w : w.heap.size + 1 + 1 + 1 ≤ wr.heap.size := b3.lt
        have hbx1 : Below (w.heap.size + 1 + 1) wr (wN.alloc (.cells (trCells (cleanT q).l (cleanT q).tk (.slice na (cleanT q).kids.length nc)).toArray tT)) := hbrA.mono (by omega)
        have hbx2 : Below (w.heap.size + 1 + 1) (wN.alloc (.cells (trCells (cleanT q).l (cleanT q).tk (.slice na (cleanT q).kids.length nc)).toArray tT)) w3 := hb3'.mono (by omega)
        have hbx : Below (w.heap.size + 1 + 1) wr (w3.setCell ⟨w.heap.size + 1 + 1, 4, none⟩ (.slice va' (i + 1) vc')) := (hbx1.trans hbx2).setCell (p := ⟨w.heap.size + 1 + 1, 4, none⟩) (Nat.le_refl _) _
        have hblk : ∀ b, w.heap.size + 1 + 1 < b → b < (wN.alloc (.cells (trCells (cleanT q).l (cleanT q).tk (.slice na (cleanT q).kids.length nc)).toArray tT)).heap.size → (Value.slice va i vc).ownBlock ≠ some b → (w3.setCell ⟨w.heap.size + 1 + 1, 4, none⟩ (.slice va' (i + 1) vc')).heap[b]? = (wN.alloc (.cells (trCells (cleanT q).l (cleanT q).tk (.slice na (cleanT q).kids.length nc)).toArray tT)).heap[b]? := fun b h1 h2 h3 => (Below.heap_setCell w3 ⟨w.heap.size + 1 + 1, 4, none⟩ _ b (by simp; omega)).trans (hg3.block b h2 (fun e => h3 e.symm))
        have hnb : ∀ b, b < (wN.alloc (.cells (trCells (cleanT q).l (cleanT q).tk (.slice na (cleanT q).kids.length nc)).toArray tT)).heap.size → (Value.slice va i vc).ownBlock ≠ some b → (Value.slice va' (i + 1) vc').ownBlock ≠ some b := fun b h1 h2 => by
          rcases hb3 with e | e
          · rw [e]; exact h2
          · rw [e]; intro e'; have h4 : (wN.alloc (.cells (trCells (cleanT q).l (cleanT q).tk (.slice na (cleanT q).kids.length nc)).toArray tT)).heap.size = b := Option.some.inj e'; omega
        have hsz3 : (wN.alloc (.cells (trCells (cleanT q).l (cleanT q).tk (.slice na (cleanT q).kids.length nc)).toArray tT)).heap.size ≤ (w3.setCell ⟨w.heap.size + 1 + 1, 4, none⟩ (.slice va' (i + 1) vc')).heap.size := by rw [World.size_setCell]; exact hg3.size
        have hrl5 : RepL (w3.setCell ⟨w.heap.size + 1 + 1, 4, none⟩ (.slice va' (i + 1) vc')) (fun b => w.heap.size + 1 + 1 < b ∧ (Value.slice va' (i + 1) vc').ownBlock ≠ some b) (cleanL (kids.take (i + 1))) (ks ++ trCells (cleanT q).l (cleanT q).tk (.slice na (cleanT q).kids.length nc)) := by
          rw [ht]
          refine (RepL.keep (fun b hb ⟨h1, h2⟩ => ?g1) (Nat.le_trans hbrA.size hsz3) _ _ hrl).snoc (Rep.keep (ok := fun b => w.heap.size + 1 + 1 < b ∧ (Value.slice va i vc).ownBlock ≠ some b) (fun b hb ⟨h1, h2⟩ => ?g2) (Nat.le_trans hbA.size hsz3) _ _ (TreeV.rep n1 n2 (RepK.keep (fun b hb h => ⟨⟨by have h1 : W7.heap.size ≤ b := h; have h3 : G < W7.heap.size := b7.lt; omega, fun e => by have h1 := hrow b e; have h2 : W7.heap.size ≤ b := h; have h3 : G < W7.heap.size := b7.lt; omega⟩, rfl⟩) (Nat.le_refl _) _ _ n3)))
          case g1 =>
            have hbl : b < (wN.alloc (.cells (trCells (cleanT q).l (cleanT q).tk (.slice na (cleanT q).kids.length nc)).toArray tT)).heap.size := Nat.lt_of_lt_of_le hb hbrA.size
            exact ⟨⟨h1, hnb b hbl h2⟩, (hblk b h1 hbl h2).trans (hbrA.block b hb)⟩
          case g2 =>
            have hbl : b < (wN.alloc (.cells (trCells (cleanT q).l (cleanT q).tk (.slice na (cleanT q).kids.length nc)).toArray tT)).heap.size := Nat.lt_of_lt_of_le hb hbA.size
            exact ⟨⟨h1, hnb b hbl h2⟩, (hblk b h1 hbl h2).trans (hbA.block b hb)⟩
        have hbw5 := hbr.trans (hbx.mono (show w.heap.size ≤ w.heap.size + 1 + 1 by omega))
        have hbw6 := hbr1.trans hbx
        clear hS b3N e0 e1 e2 e3 e4 e5 hown3 hg3 hb3 hoA hoN hbA hb3' hrow hGN hvg hbr7 hbrA hbx hblk hnb hsz3 b3 ho hrl m3 x0 x1 x2 x3 x4 g4 n3 hb7 b7
        go_wp2_with fail
        have hik := HI.out
        go_roundg (gk - 1)
        case measure => omega
        case rel => exact ⟨i + 1, va', vc', _, by omega, by go_num, hbw5, hbw6, b5, own5, hrl5⟩
      · clear hik ih
        obtain rfl : i = kids.length := by have := HI.out; omega
        rw [List.take_length] at hrl
        obtain ⟨g0, g1, g2, g3, g4⟩ := b3.c5
        have b2r := b2.below hbr1 (by omega)
        have f0 := b2r.frozen 0
        have f1 := b2r.frozen 1
        have f2 := b2r.frozen 2
        have f3 := b2r.frozen 3
        have f4 := b2r.frozen 4
        obtain ⟨d0, d1, d2, d3, d4⟩ := b2r.c5
        go_wp2_with fail
        have bF := ((((b2r.set_ 0 (.bool true)).set_ 1 (.int .i64 1)).set_ 2 (.string ⟨#[40]⟩)).set_ 3 (.int .i64 0)).set_ 4 (.slice va kids.length vc)
        have hkf : ∀ b, b ≠ w.heap.size + 1 → (((((wr.setCell ⟨w.heap.size + 1, 0, none⟩ (.bool true)).setCell ⟨w.heap.size + 1, 1, none⟩ (.int .i64 1)).setCell ⟨w.heap.size + 1, 2, none⟩ (.string ⟨#[40]⟩)).setCell ⟨w.heap.size + 1, 3, none⟩ (.int .i64 0)).setCell ⟨w.heap.size + 1, 4, none⟩ (.slice va kids.length vc)).heap[b]? = wr.heap[b]? := fun b h => by
          rw [Below.heap_setCell _ _ _ _ h, Below.heap_setCell _ _ _ _ h, Below.heap_setCell _ _ _ _ h, Below.heap_setCell _ _ _ _ h, Below.heap_setCell _ _ _ _ h]
        have hzf : wr.heap.size ≤ (((((wr.setCell ⟨w.heap.size + 1, 0, none⟩ (.bool true)).setCell ⟨w.heap.size + 1, 1, none⟩ (.int .i64 1)).setCell ⟨w.heap.size + 1, 2, none⟩ (.string ⟨#[40]⟩)).setCell ⟨w.heap.size + 1, 3, none⟩ (.int .i64 0)).setCell ⟨w.heap.size + 1, 4, none⟩ (.slice va kids.length vc)).heap.size := by simp
        have hbF := ((((hbr.setCell (p := ⟨w.heap.size + 1, 0, none⟩) (by simp) (.bool true)).setCell (p := ⟨w.heap.size + 1, 1, none⟩) (by simp) (.int .i64 1)).setCell (p := ⟨w.heap.size + 1, 2, none⟩) (by simp) (.string ⟨#[40]⟩)).setCell (p := ⟨w.heap.size + 1, 3, none⟩) (by simp) (.int .i64 0)).setCell (p := ⟨w.heap.size + 1, 4, none⟩) (by simp) (.slice va kids.length vc)
        generalize ((((wr.setCell ⟨w.heap.size + 1, 0, none⟩ (.bool true)).setCell ⟨w.heap.size + 1, 1, none⟩ (.int .i64 1)).setCell ⟨w.heap.size + 1, 2, none⟩ (.string ⟨#[40]⟩)).setCell ⟨w.heap.size + 1, 3, none⟩ (.int .i64 0)).setCell ⟨w.heap.size + 1, 4, none⟩ (.slice va kids.length vc) = WF at bF hbF hkf hzf ⊢
        have hq : cleanT (.mk true tk kids) = .mk true (1, [40], 0) (cleanL kids) := clean_list tk kids
        have hln := cleanL_len kids
        rw [← hln] at ho
        have hV := repV_of (ok := fun b => w.heap.size + 1 < b) ho (RepL.keep (ok' := fun b => w.heap.size + 1 < b) (fun b _ h => ⟨by omega, rfl⟩) (Nat.le_refl _) _ _ hrl) (fun g hg => by have := (ho.lt g hg).1; omega)
        have hV2 := hV.keep (ok' := fun b => w.heap.size ≤ b) (fun b _ h => ⟨by omega, hkf b (by omega)⟩) hzf
        obtain ⟨na, nc, en, n1, n2, n3⟩ := hV2
        obtain ⟨y0, y1, y2, y3, y4⟩ := bF.c5
        refine bodyPost_ret (v := .agg #[.bool true, .int .i64 1, .string ⟨#[40]⟩, .int .i64 0, .slice va kids.length vc]) (by simp [results, Tryd.results22, go_sem, y0, y1, y2, y3, y4]) rfl (show Post (.returned _) WF from ?_)
        rw [← HP.out]
        unfold CleanPost
        rw [hq]
        refine ⟨na, nc, ?_, n1, n2, n3, hbF⟩
        rw [hln] at en
        simp only [trV, Tr.l, Tr.tk, Tr.kids, hln, en]
end Go.Proofs.YtajlibegalbbmaaDoor
