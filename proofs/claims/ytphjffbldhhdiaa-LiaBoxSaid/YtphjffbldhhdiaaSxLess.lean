/- simplex's sign, less: by their contracts. -/
import Derived.Test.YtphjffbldhhdiaaFb
namespace Go.Proofs.Ytphjffbldhhdiaa
theorem sB {α:Type} (l:List α) (i:Nat) (a:α):l.toArray.setIfInBounds i a = (l.set i a).toArray:=List.setIfInBounds_toArray l i a
theorem sC {α:Type} (x a:α) (l:List α):(x :: l).set 0 a = a :: l:=List.set_cons_zero
theorem sD {α:Type} (x a:α) (n:Nat) (l:List α):(x :: l).set (n + 1) a = x :: l.set n a:=List.set_cons_succ
theorem tkH {P:Program} {md:Region.Mode} {ops:Array Oper} {Q:Exit → Act → World → Prop} {S:World → Prop} (i:Nat) (oi:Oper) {v:Value} {fuel:Nat} {listed:Array Bool} {a:Act} {w:World} (hS:S w) (h:wpAnyH P md ops Q S fuel (listed.setIfInBounds i true) (a.put oi.dst v) w)
  (hi:ops[i]? = some oi:=by rfl) (hc:(Region.noSelect ops && (Region.free md ops listed i && (Region.ready md ops listed).contains i)) = true:=by kernel_rfl)
  (hQ:∀ c a w,Q (.panic c) (a.put oi.dst v) w → Q (.panic c) a w:=by exact fun _ _ _ h=>h) (hw:Region.wanted oi (yielded ops a.tmps) = true:=by rfl)
  (hy:∀ w',S w' → (execOp a.eval oi).run P w' = .ok (.value v) w':=by intro w' hSw; (try dsimp only at hSw); go_simp; try with_reducible rfl):wpAnyH P md ops Q S (fuel + 1) listed a w:=by
 rw [Bool.and_eq_true,Bool.and_eq_true] at hc
 exact wpAnyH_take hi hc.1 hc.2.1 hc.2.2 hQ (.inl ⟨hw,hy⟩) hS h
open Go.RowKit
theorem kp0 {c w1 w0:World} (hS:Below w0.heap.size w0 c) (hb1:Below c.heap.size c w1):Below w0.heap.size w0 w1:=hS.trans (hb1.mono hS.size)
theorem kp1 {c w1 w0:World} {a0:Addr} {v0:Value} (hS:c.cell? a0 = some v0 ∧ Below w0.heap.size w0 c) (hb1:Below c.heap.size c w1):w1.cell? a0 = some v0 ∧ Below w0.heap.size w0 w1:=⟨cellK hb1 hS.1,hS.2.trans (hb1.mono hS.2.size)⟩
theorem kp2 {c w1 w0:World} {a0 a1:Addr} {v0 v1:Value} (hS:c.cell? a0 = some v0 ∧ c.cell? a1 = some v1 ∧ Below w0.heap.size w0 c) (hb1:Below c.heap.size c w1):w1.cell? a0 = some v0 ∧ w1.cell? a1 = some v1 ∧ Below w0.heap.size w0 w1:=⟨cellK hb1 hS.1,cellK hb1 hS.2.1,hS.2.2.trans (hb1.mono hS.2.2.size)⟩
theorem kp3 {c w1 w0:World} {a0 a1 a2:Addr} {v0 v1 v2:Value} (hS:c.cell? a0 = some v0 ∧ c.cell? a1 = some v1 ∧ c.cell? a2 = some v2 ∧ Below w0.heap.size w0 c) (hb1:Below c.heap.size c w1):w1.cell? a0 = some v0 ∧ w1.cell? a1 = some v1 ∧ w1.cell? a2 = some v2 ∧ Below w0.heap.size w0 w1:=⟨cellK hb1 hS.1,cellK hb1 hS.2.1,cellK hb1 hS.2.2.1,hS.2.2.2.trans (hb1.mono hS.2.2.2.size)⟩
theorem kp4 {c w1 w0:World} {a0 a1 a2 a3:Addr} {v0 v1 v2 v3:Value} (hS:c.cell? a0 = some v0 ∧ c.cell? a1 = some v1 ∧ c.cell? a2 = some v2 ∧ c.cell? a3 = some v3 ∧ Below w0.heap.size w0 c) (hb1:Below c.heap.size c w1):w1.cell? a0 = some v0 ∧ w1.cell? a1 = some v1 ∧ w1.cell? a2 = some v2 ∧ w1.cell? a3 = some v3 ∧ Below w0.heap.size w0 w1:=⟨cellK hb1 hS.1,cellK hb1 hS.2.1,cellK hb1 hS.2.2.1,cellK hb1 hS.2.2.2.1,hS.2.2.2.2.trans (hb1.mono hS.2.2.2.2.size)⟩
theorem kp5 {c w1 w0:World} {a0 a1 a2 a3 a4:Addr} {v0 v1 v2 v3 v4:Value} (hS:c.cell? a0 = some v0 ∧ c.cell? a1 = some v1 ∧ c.cell? a2 = some v2 ∧ c.cell? a3 = some v3 ∧ c.cell? a4 = some v4 ∧ Below w0.heap.size w0 c) (hb1:Below c.heap.size c w1):w1.cell? a0 = some v0 ∧ w1.cell? a1 = some v1 ∧ w1.cell? a2 = some v2 ∧ w1.cell? a3 = some v3 ∧ w1.cell? a4 = some v4 ∧ Below w0.heap.size w0 w1:=⟨cellK hb1 hS.1,cellK hb1 hS.2.1,cellK hb1 hS.2.2.1,cellK hb1 hS.2.2.2.1,cellK hb1 hS.2.2.2.2.1,hS.2.2.2.2.2.trans (hb1.mono hS.2.2.2.2.2.size)⟩
theorem kp6 {c w1 w0:World} {a0 a1 a2 a3 a4 a5:Addr} {v0 v1 v2 v3 v4 v5:Value} (hS:c.cell? a0 = some v0 ∧ c.cell? a1 = some v1 ∧ c.cell? a2 = some v2 ∧ c.cell? a3 = some v3 ∧ c.cell? a4 = some v4 ∧ c.cell? a5 = some v5 ∧ Below w0.heap.size w0 c) (hb1:Below c.heap.size c w1):w1.cell? a0 = some v0 ∧ w1.cell? a1 = some v1 ∧ w1.cell? a2 = some v2 ∧ w1.cell? a3 = some v3 ∧ w1.cell? a4 = some v4 ∧ w1.cell? a5 = some v5 ∧ Below w0.heap.size w0 w1:=⟨cellK hb1 hS.1,cellK hb1 hS.2.1,cellK hb1 hS.2.2.1,cellK hb1 hS.2.2.2.1,cellK hb1 hS.2.2.2.2.1,cellK hb1 hS.2.2.2.2.2.1,hS.2.2.2.2.2.2.trans (hb1.mono hS.2.2.2.2.2.2.size)⟩
theorem kp7 {c w1 w0:World} {a0 a1 a2 a3 a4 a5 a6:Addr} {v0 v1 v2 v3 v4 v5 v6:Value} (hS:c.cell? a0 = some v0 ∧ c.cell? a1 = some v1 ∧ c.cell? a2 = some v2 ∧ c.cell? a3 = some v3 ∧ c.cell? a4 = some v4 ∧ c.cell? a5 = some v5 ∧ c.cell? a6 = some v6 ∧ Below w0.heap.size w0 c) (hb1:Below c.heap.size c w1):w1.cell? a0 = some v0 ∧ w1.cell? a1 = some v1 ∧ w1.cell? a2 = some v2 ∧ w1.cell? a3 = some v3 ∧ w1.cell? a4 = some v4 ∧ w1.cell? a5 = some v5 ∧ w1.cell? a6 = some v6 ∧ Below w0.heap.size w0 w1:=⟨cellK hb1 hS.1,cellK hb1 hS.2.1,cellK hb1 hS.2.2.1,cellK hb1 hS.2.2.2.1,cellK hb1 hS.2.2.2.2.1,cellK hb1 hS.2.2.2.2.2.1,cellK hb1 hS.2.2.2.2.2.2.1,hS.2.2.2.2.2.2.2.trans (hb1.mono hS.2.2.2.2.2.2.2.size)⟩
theorem kp8 {c w1 w0:World} {a0 a1 a2 a3 a4 a5 a6 a7:Addr} {v0 v1 v2 v3 v4 v5 v6 v7:Value} (hS:c.cell? a0 = some v0 ∧ c.cell? a1 = some v1 ∧ c.cell? a2 = some v2 ∧ c.cell? a3 = some v3 ∧ c.cell? a4 = some v4 ∧ c.cell? a5 = some v5 ∧ c.cell? a6 = some v6 ∧ c.cell? a7 = some v7 ∧ Below w0.heap.size w0 c) (hb1:Below c.heap.size c w1):w1.cell? a0 = some v0 ∧ w1.cell? a1 = some v1 ∧ w1.cell? a2 = some v2 ∧ w1.cell? a3 = some v3 ∧ w1.cell? a4 = some v4 ∧ w1.cell? a5 = some v5 ∧ w1.cell? a6 = some v6 ∧ w1.cell? a7 = some v7 ∧ Below w0.heap.size w0 w1:=⟨cellK hb1 hS.1,cellK hb1 hS.2.1,cellK hb1 hS.2.2.1,cellK hb1 hS.2.2.2.1,cellK hb1 hS.2.2.2.2.1,cellK hb1 hS.2.2.2.2.2.1,cellK hb1 hS.2.2.2.2.2.2.1,cellK hb1 hS.2.2.2.2.2.2.2.1,hS.2.2.2.2.2.2.2.2.trans (hb1.mono hS.2.2.2.2.2.2.2.2.size)⟩

set_option maxRecDepth 100000 in
set_option maxHeartbeats 1600000 in
theorem sign_any {p:Rat} {u:Value} (w:World) (hx:FracV w u p) (hp:Qz p):Calls Try.prog 75 #[u] w fun e w'=>e = .returned (.int .i64 (ordQ p 0)) ∧ Below w.heap.size w w':=by
 generalize hr:ordQ p 0 = r
 have HR:=hide hr
 clear hr
 obtain ⟨xn,xa,xl,xk,xm,xb,xi,xj,rfl,hx1,hx2⟩:=FracV.parts hx
 obtain ⟨W,hW⟩:∃ W,(w.alloc (.cells #[.bool xn,.slice xa xl xk,.bool xm,.slice xb xi xj] 71)) = W:=⟨_,rfl⟩
 have bx:Blk W w.heap.size 71 #[.bool xn,.slice xa xl xk,.bool xm,.slice xb xi xj]:=by rw [← hW]; exact Blk.new w _ _
 have sb:Below w.heap.size w W:=by rw [← hW]; exact (Below.refl w.heap.size w).alloc (Nat.le_refl _) _
 obtain ⟨cx0,cx1,cx2,cx3,-⟩:=bx.c4
 have HW:=hide hW
 clear hW bx
 go_enter Try.func75,Try.ntmps75
 go_upto_region 1 with (fail)
 rw [HW.out]
 clear HW
 go_wp2_with fail
 refine (FCmp_at (hx.below sb (Nat.le_refl _)) (FracV.zero _) hp (Qn.z Qn.zero (by decide)) HR.out).mono ?_
 rintro e w2 ⟨rfl,hb⟩
 have hB:=sb.trans (hb.mono sb.size)
 go_wp2_with fail
 go_ret
 exact ⟨rfl,hB⟩

set_option maxRecDepth 100000 in
set_option maxHeartbeats 1600000 in
theorem less_any {p q:Rat} {u v:Value} (w:World) (hx:FracV w u p) (hy:FracV w v q) (hp:Qz p) (hq:Qz q):Calls Try.prog 78 #[u,v] w (FracPost w (p - q)):=by
 generalize hP:FracPost w (p - q) = Post
 have HP:=hide hP
 clear hP
 have hq1:Qz (-q):=Qn.neg hq
 obtain ⟨xn,xa,xl,xk,xm,xb,xi,xj,rfl,hx1,hx2⟩:=FracV.parts hx
 obtain ⟨yn,ya,yl,yk,ym,yb,yi,yj,rfl,hy1,hy2⟩:=FracV.parts hy
 obtain ⟨W,hW⟩:∃ W,(((w.alloc (.cells #[.bool xn,.slice xa xl xk,.bool xm,.slice xb xi xj] 71)).alloc (.cells #[.bool yn,.slice ya yl yk,.bool ym,.slice yb yi yj] 71)).alloc (.cells #[.bool false,.slice none 0 0,.bool false,.slice none 0 0] 71)) = W:=⟨_,rfl⟩
 have bx:Blk W w.heap.size 71 #[.bool xn,.slice xa xl xk,.bool xm,.slice xb xi xj]:=by rw [← hW]; exact ((Blk.new w _ _).alloc _).alloc _
 have by_:Blk W (w.heap.size + 1) 71 #[.bool yn,.slice ya yl yk,.bool ym,.slice yb yi yj]:=by rw [← hW]; exact (Blk.new_at _ _ _ (by simp)).alloc _
 have bR:Blk W (w.heap.size + 1 + 1) 71 #[.bool false,.slice none 0 0,.bool false,.slice none 0 0]:=by rw [← hW]; exact Blk.new_at _ _ _ (by simp)
 have sb:Below w.heap.size w W:=by rw [← hW]; exact (((Below.refl w.heap.size w).alloc (Nat.le_refl _) _).alloc (by simp) _).alloc (by simp; omega) _
 obtain ⟨cx0,cx1,cx2,cx3,-⟩:=bx.c4
 obtain ⟨cy0,cy1,cy2,cy3,-⟩:=by_.c4
 have hK:Kq w 71 (w.heap.size + 1 + 1) W:=⟨sb,by omega,_,_,_,_,_,_,_,_,bR⟩
 have HW:=hide hW
 clear hW bx by_ bR
 go_enter Try.func78,Try.ntmps78
 go_upto_region 1 with (fail)
 rw [HW.out]
 clear HW
 have hK1:=hK.drew
 have dx:w.heap.size ≠ w.heap.size + 1 + 1:=by omega
 have dy:w.heap.size + 1 ≠ w.heap.size + 1 + 1:=by omega
 go_region_held3 (fun w'=>w'.cell? ⟨w.heap.size,0,none⟩ = some (.bool xn) ∧ w'.cell? ⟨w.heap.size,1,none⟩ = some (.slice xa xl xk) ∧ w'.cell? ⟨w.heap.size,2,none⟩ = some (.bool xm) ∧ w'.cell? ⟨w.heap.size,3,none⟩ = some (.slice xb xi xj) ∧ w'.cell? ⟨w.heap.size + 1,0,none⟩ = some (.bool yn) ∧ w'.cell? ⟨w.heap.size + 1,1,none⟩ = some (.slice ya yl yk) ∧ w'.cell? ⟨w.heap.size + 1,2,none⟩ = some (.bool ym) ∧ w'.cell? ⟨w.heap.size + 1,3,none⟩ = some (.slice yb yi yj) ∧ Kq w 71 (w.heap.size + 1 + 1) w')
  (first | with_reducible exact keepL8 (by assumption) hb1 | with_reducible exact keepQ8 dx dx dx dx dy dy dy dy _ _ _ _ (isB_of _) (isS_of _ _ _) (isB_of _) (isS_of _ _ _) (by assumption) | go_keep)
  (first
   | (go_at_call_of 76 (Value.agg #[.bool yn,.slice ya yl yk,.bool ym,.slice yb yi yj]); (with_reducible refine (FNeg_any _ (hy.below (by go_split_ands; exact Kq.bel (by assumption)) (Nat.le_refl _)) hq).mono ?_); rintro e wN ⟨rA,rfl,hA,hb1⟩)
   | (go_at_call_of 79 (Value.agg #[.bool xn,.slice xa xl xk,.bool xm,.slice xb xi xj]); (with_reducible refine (FAdd_any _ (hx.below (by go_split_ands; exact Kq.bel (by assumption)) (Nat.le_refl _)) hA hp hq1).mono ?_); rintro e wN ⟨rE,rfl,hE,hb1⟩; rw [← Rat.sub_eq_add_neg] at hE; obtain ⟨rn,ra,rl,rk,rm,rb,ri,rj,rfl,-,-⟩:=FracV.parts hE; obtain ⟨_,_,_,_,_,_,_,_,k0,k1,k2,k3,kf0,kf1,kf2,kf3,hX4⟩:=Kq.at (t:=71) (g:=w.heap.size + 1 + 1) (w:=w) (by go_split_ands; assumption) hb1))
 rename_i hS
 have hKf:=hS.2.2.2.2.2.2.2.2
 have hI:=FrV.st4 hE hX4 (.bool rn) (.slice ra rl rk) (.bool rm) (.slice rb ri rj)
 obtain ⟨e0,e1,e2,e3,-⟩:=(hX4.four (.bool rn) (.slice ra rl rk) (.bool rm) (.slice rb ri rj)).c4
 go_wp2_with fail
 refine bodyPost_ret (v:=Value.agg #[.bool rn,.slice ra rl rk,.bool rm,.slice rb ri rj]) (by simp [results,Try.results78,go_sem,e0,e1,e2,e3]) rfl ?_
 rw [← HP.out]
 exact ⟨_,rfl,hI,hKf.1⟩

end Go.Proofs.Ytphjffbldhhdiaa
