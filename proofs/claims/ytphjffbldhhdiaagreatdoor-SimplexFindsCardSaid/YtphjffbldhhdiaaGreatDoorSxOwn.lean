/- simplex's own: by its contract. -/
import Derived.Test.YtphjffbldhhdiaaGreatDoorSxSet
import Derived.Maps.AppendAt
namespace Go.Proofs.YtphjffbldhhdiaaGreatDoor
open Go.RowKit

theorem wp_append_at {P : Program} {w : World} {o : Oper} {a : Act} {K : Act → World → Prop} {Q : Exit → Act → World → Prop} (s x : Operand) (t : TypeId)
    (ho : o.op = .call { callee := .builtin .append, args := #[s, x], argTypes := #[t, t] })
    (base : Nat) (e : TypeId) (i : TypeInfo) (z : Value) (size bytes : Nat) (ht : P.underlying t = some (.slice e)) (hi : P.info? e = some i) (hz : i.zero = some z)
    (hsize : i.size = size) (hby : i.bytes = bytes) (hzs : z.cells.size = size) (hsz : 0 < size)
    (v : Value) (n : Nat) (xs : List Value) (hs : a.eval s = v) (hown : w.ownsRow base e size v n xs)
    (ad : Addr) (m c : Nat) (news : List Value) (hx : a.eval x = .slice (some ad) m c) (hl : news.length = m * size) (hnews : ∀ j u, news[j]? = some u → w.cell? (ad.add j) = some u) (h1 : ∀ u ∈ news, u.oneCell' = true)
    (h63 : n + m ≤ maxLen) (hbytes : (n + m) * bytes ≤ 140737488355328) (hbase : base ≤ w.heap.size)
    (h : ∀ v' w', w'.ownsRow base e size v' (n + m) (xs ++ news) → w.grownBy w' v.ownBlock → (v'.ownBlock = v.ownBlock ∨ v'.ownBlock = some w.heap.size) → K (a.put o.dst v') w') : o.wp P a w K Q := by
  obtain ⟨v', w', hr, h2, h3, _, h5⟩ := run_append_own_at (P := P) w base t o.type e i z size bytes ht hi hz hsize hby hzs hsz v n xs hown ad m c news hl hnews h1 h63 hbytes hbase
  unfold Oper.wp execOp
  simp only [ho, resolve, invoke, builtin, Sem.run_bind, Sem.run_pure, Result.andThen_ok, List.map_toArray, List.map_cons, List.map_nil, hs, hx, hr]
  exact h v' w' h2 h3 h5

/-- 'append(v, x...)' in a drawn region, v the call's own, x nil or not. -/
theorem wp_append_src {w : World} {o : Oper} {a : Act} {K : Act → World → Prop} {Q : Exit → Act → World → Prop} (s x : Operand)
    (ho : o.op = .call { callee := .builtin .append, args := #[s, x], argTypes := #[35, 35] })
    (base : Nat) (v : Value) (ds : List Nat) (hs : a.eval s = v) (hown : OwnD w base v ds) (A : Option Addr) (c : Nat) (es : List Nat) (hx : a.eval x = .slice A es.length c) (hfit : Fit A es.length c) (hd : Dg .u32 w A es)
    (hlen : ds.length + es.length ≤ 2199023255552) (hbase : base ≤ w.heap.size)
    (h : ∀ v' w', OwnD w' base v' (ds ++ es) → Below base w w' → K (a.put o.dst v') w') : o.wp Tryz.prog a w K Q := by
  obtain ⟨i0, hi0, hz0, hz1, hz2⟩ := info_parts info32
  cases A with
  | none =>
    obtain ⟨h1, h2⟩ := hfit
    have hc := h2 rfl
    subst hc
    obtain rfl : es = [] := List.eq_nil_of_length_eq_zero (by omega)
    have hrun := run_append_owned_none (P := Tryz.prog) (w := w) base 35 o.type 93 i0 1 Tryz.underlying35 hi0 v ds.length (dcells .u32 ds) hown
    have hx' : a.eval x = .slice none 0 0 := hx
    unfold Oper.wp
    simp [execOp, ho, resolve, invoke, builtin, hs, hx', hrun, Result.andThen]
    exact h v w (by simpa using hown) (Below.refl _ _)
  | some ad =>
    have hnews : ∀ j u, (dcells .u32 es)[j]? = some u → w.cell? (ad.add j) = some u := by
      intro j u hj
      have hjl : j < es.length := by
        have := (List.getElem?_eq_some_iff.1 hj).1
        rwa [dcells_len] at this
      obtain ⟨b, off, e, hc⟩ := hd (by omega)
      obtain rfl : ad = ⟨b, off, none⟩ := Option.some.inj e
      rw [add_plain, hc j hjl]
      unfold dcells at hj
      rw [List.getElem?_map, List.getElem?_eq_getElem hjl] at hj
      exact hj
    refine wp_append_at s x 35 ho base 93 i0 (.int .u32 0) 1 4 Tryz.underlying35 hi0 hz0 hz1 hz2 rfl (by decide) v ds.length (dcells .u32 ds) hs hown ad es.length c (dcells .u32 es) hx (by rw [dcells_len]; omega) hnews (dcells_one _ _) (by unfold maxLen; omega) (by omega) hbase (fun v' w' h2 h3 h4 => ?_)
    refine h v' w' ?_ (below_of_grown h3 (fun g hg => (World.ownsRow.lt hown g hg).1) hbase)
    unfold OwnD
    rw [dcells_app, List.length_append]
    exact h2

set_option maxRecDepth 100000 in
set_option maxHeartbeats 1600000 in
theorem own1_any {x : Int} {u : Value} (w : World) (hx : IntV w u x) (hn : Sm x) : Calls Tryz.prog 54 #[u] w (IntPost w x) := by
  generalize hP : IntPost w x = Post
  have HP := hide hP
  clear hP
  obtain ⟨xa, xk, rfl, hf, hd⟩ := hx
  have hn2 : (dg BB x.natAbs).length ≤ 1099511627776 := hn
  obtain ⟨ds, hds⟩ : ∃ ds, dg BB x.natAbs = ds := ⟨_, rfl⟩
  obtain ⟨xn, hxn⟩ : ∃ xn, decide (x < 0) = xn := ⟨_, rfl⟩
  rw [hds] at hf hd hn2 ⊢
  rw [hxn]
  replace hds := hide hds
  replace hxn := hide hxn
  clear hn
  obtain ⟨W, hW⟩ : ∃ W, ((w.alloc (.cells #[.bool xn, .slice xa ds.length xk] 37)).alloc (.cells #[.bool false, .slice none 0 0] 37)) = W := ⟨_, rfl⟩
  have bx : Blk W w.heap.size 37 #[.bool xn, .slice xa ds.length xk] := by rw [← hW]; exact (Blk.new w _ _).alloc _
  have bR : Blk W (w.heap.size + 1) 37 #[.bool false, .slice none 0 0] := by rw [← hW]; exact Blk.new_at _ _ _ (by simp)
  have sb : Below w.heap.size w W := by rw [← hW]; exact ((Below.refl w.heap.size w).alloc (Nat.le_refl _) _).alloc (by simp) _
  obtain ⟨cx0, cx1, -⟩ := bx.c2
  have hK : Kp w 37 (w.heap.size + 1) W := ⟨sb, by omega, _, _, _, _, bR⟩
  have HW := hide hW
  clear hW bx bR
  go_enter Tryz.func54, Tryz.ntmps54
  go_upto_region 1 with (fail)
  rw [HW.out]
  clear HW
  have dx : w.heap.size ≠ w.heap.size + 1 := by omega
  refine wp_region_held_drew (S := fun w' => w'.cell? ⟨w.heap.size, 0, none⟩ = some (.bool xn) ∧ w'.cell? ⟨w.heap.size, 1, none⟩ = some (.slice xa ds.length xk) ∧ Kp w 37 (w.heap.size + 1) w') (by kernel_rfl) (⟨cx0, cx1, hK.drew⟩) (fun hS => ?_)
  refine wpAnyH_take (i := 0) (oi := ⟨some 3, Op.fieldAddr 37 (Operand.tmp 1) 0, 0, "simplex.go:65", #[], none⟩) (v := ?_) rfl (by kernel_rfl) (by kernel_rfl) (by kernel_rfl) (fun _ _ _ h => h) (Or.inl ⟨by rfl, ?_⟩) hS ?_
  rotate_left
  · (intro w' hSw; (try dsimp only at hSw); go_simp; try with_reducible rfl)
  try simp only [Act.put, sB, sC, sD]
  refine wpAnyH_take (i := 1) (oi := ⟨some 4, Op.load 4 (Operand.tmp 3), 4, "simplex.go:65", #[eD 0], none⟩) (v := ?_) rfl (by kernel_rfl) (by kernel_rfl) (by kernel_rfl) (fun _ _ _ h => h) (Or.inl ⟨by rfl, ?_⟩) hS ?_
  rotate_left
  · (intro w' hSw; (try dsimp only at hSw); go_simp; try with_reducible rfl)
  try simp only [Act.put, sB, sC, sD]
  refine wpAnyH_take (i := 2) (oi := ⟨some 5, Op.fieldAddr 37 (Operand.tmp 1) 1, 0, "simplex.go:65", #[], none⟩) (v := ?_) rfl (by kernel_rfl) (by kernel_rfl) (by kernel_rfl) (fun _ _ _ h => h) (Or.inl ⟨by rfl, ?_⟩) hS ?_
  rotate_left
  · (intro w' hSw; (try dsimp only at hSw); go_simp; try with_reducible rfl)
  try simp only [Act.put, sB, sC, sD]
  refine wpAnyH_take (i := 3) (oi := ⟨some 6, Op.load 35 (Operand.tmp 5), 35, "simplex.go:65", #[eD 2], none⟩) (v := ?_) rfl (by kernel_rfl) (by kernel_rfl) (by kernel_rfl) (fun _ _ _ h => h) (Or.inl ⟨by rfl, ?_⟩) hS ?_
  rotate_left
  · (intro w' hSw; (try dsimp only at hSw); go_simp; try with_reducible rfl)
  try simp only [Act.put, sB, sC, sD]
  refine wpAnyH_ready (rs := [4]) (by kernel_rfl) (by simp) ?_
  refine AllReadyH.cons (o := ⟨some 7, Op.call { callee := Callee.builtin Builtin.append, args := #[Operand.const (Value.slice none 0 0), Operand.tmp 6], argTypes := #[35, 35] }, 35, "simplex.go:65", #[eD 3], none⟩) rfl (fun K hK => ?_) AllReadyH.nil
  rw [if_pos (by rfl)]
  refine wp_append_src (.const (.slice none 0 0)) (.tmp 6) rfl _ (.slice none 0 0) [] (by rfl) (OwnD.nil _ _) xa xk ds (by rfl) hf (hd.below hS.2.2.bel (Nat.le_refl _)) (by simp; omega) (Nat.le_refl _) ?_
  intro v2 w2 ho hb1
  obtain ⟨ra, rc, rfl⟩ := own_slice ho
  obtain ⟨hD2, hc2⟩ := own_dg ho
  refine hK.out _ _ (keepK2 hS hb1) (fun hS => ?_)
  clear hK K hb1
  try simp only [Act.put, sB, sC, sD]
  refine wpAnyH_take (i := 5) (oi := ⟨some 8, Op.build 37 #[(0, Operand.tmp 4), (1, Operand.tmp 7)], 37, "simplex.go:65", #[eD 1, eD 4], none⟩) (v := ?_) rfl (by kernel_rfl) (by kernel_rfl) (by kernel_rfl) (fun _ _ _ h => h) (Or.inl ⟨by rfl, ?_⟩) hS ?_
  rotate_left
  · (intro w' hSw; (try dsimp only at hSw); go_simp; try with_reducible rfl)
  try simp only [Act.put, sB, sC, sD]
  refine wpAnyH_ready (rs := [6]) (by kernel_rfl) (by simp) ?_
  refine AllReadyH.cons (o := ⟨none, Op.store 37 (Operand.tmp 2) (Operand.tmp 8), 0, "simplex.go:65", #[eD 5, eC 4, eP 0, eP 1, eP 2, eP 3, eP 4, eP 5], none⟩) rfl (fun K hK => ?_) AllReadyH.nil
  obtain ⟨_, _, _, _, k0, k1, kf0, kf1, hX4⟩ := Kp.at (t := 37) (g := w.heap.size + 1) (w := w) hS.2.2 (Below.refl _ _)
  go_simp
  refine hK.out _ _ (keepP2 dx dx _ _ (isB_of _) (isS_of _ _ _) hS) (fun hS => ?_)
  clear hK K
  try simp only [Act.put, sB, sC, sD]
  refine wpAnyH_done (by kernel_rfl) ?_ _
  have hI0 : IntV w2 (.agg #[.bool xn, .slice ra ds.length rc]) x := ⟨ra, rc, by rw [hds.out, hxn.out], by rw [hds.out]; exact hc2, by rw [hds.out]; exact hD2⟩
  have hI := hI0.st2 hX4 (.bool xn) (.slice ra ds.length rc)
  obtain ⟨e0, e1, -⟩ := (hX4.two (.bool xn) (.slice ra ds.length rc)).c2
  have hB := hS.2.2.bel
  clear hS
  go_wp2_with fail
  refine bodyPost_ret (v := Value.agg #[.bool xn, .slice ra ds.length rc]) (by simp [results, Tryz.results54, go_sem, e0, e1]) rfl ?_
  rw [← HP.out]
  exact ⟨_, rfl, hI, hB⟩
end Go.Proofs.YtphjffbldhhdiaaGreatDoor
