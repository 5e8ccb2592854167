/- collatorlaw18.great: by its contract. -/
import Derived.Test.YtphjffbldhhdiaaLiRows
namespace Go.Proofs.Ytphjffbldhhdiaa
open Go.RowKit

def Raw.cells (R:Raw):List Value:=[.bool R.neg,.slice R.at_ R.ds.length R.cap]
theorem wpList_append_li {w:World} {ops:Array Oper} {rest:List Oper} {o:Oper} {a:Act} {Q:Exit → Act → World → Prop} (hgd:o.guard = none) (s x:Operand)
  (ho:o.op = .call { callee:=.builtin .append,args:=#[s,x],argTypes:=#[25,25] })
  (base:Nat) (v:Value) (n:Nat) (xs:List Value) (hs:a.eval s = v) (hown:w.ownsRow base 38 2 v n xs) (A:Option Addr) (m c:Nat) (hx:a.eval x = .slice A m c) (hfit:Fit A m c)
  (hc:0 < m → ∃ b o,A = some ⟨b,o,none⟩ ∧ ∀ i,i < m * 2 → ∃ u,w.cell? ⟨b,o + i,none⟩ = some u ∧ u.oneCell' = true) (hlen:n + m ≤ 1000000) (hbase:base ≤ w.heap.size)
  (h:∀ v' w' news,w'.ownsRow base 38 2 v' (n + m) (xs ++ news) → news.length = m * 2 → (∀ b o,A = some ⟨b,o,none⟩ → ∀ i,i < m * 2 → news[i]? = w.cell? ⟨b,o + i,none⟩) → Below base w w' → wpList Try.prog ops Q rest (a.put o.dst v') w'):wpList Try.prog ops Q (o :: rest) a w:=by
 obtain ⟨i0,hi0,hz0,hz1,hz2⟩:=info_parts infoInt
 cases A with
 | none=>
  obtain ⟨h1,h2⟩:=hfit
  obtain rfl:c = 0:=h2 rfl
  obtain rfl:m = 0:=by omega
  exact wpList_append_own_none hgd s x 25 ho base 38 i0 2 Try.underlying25 hi0 v n xs hs hown hx (h v w [] (by simpa using hown) rfl (fun _ _ e=>by cases e) (Below.refl _ _))
 | some ad=>
  obtain ⟨news,hnl,hnw⟩:∃ news:List Value,news.length = m * 2 ∧ ∀ j u,news[j]? = some u → w.cell? (ad.add j) = some u ∧ u.oneCell' = true:=by
   rcases Nat.eq_zero_or_pos m with h0 | h0
   ·exact ⟨[],by simp [h0],fun j u h=>by simp at h⟩
   ·obtain ⟨b,o,e,hu⟩:=hc h0
    obtain rfl:=Option.some.inj e
    obtain ⟨l,hl,hl2⟩:=exists_list (p:=fun i u=>w.cell? ⟨b,o + i,none⟩ = some u ∧ u.oneCell' = true) (m * 2) hu
    refine ⟨l,hl,fun j u hj=>?_⟩
    have hlt:j < l.length:=(List.getElem?_eq_some_iff.1 hj).1
    rw [List.getElem?_eq_getElem hlt] at hj
    obtain rfl:=Option.some.inj hj
    rw [add_plain]
    exact hl2 j hlt
  refine wpList_append_own w hgd s x 25 ho base 38 i0 zeroI 2 32 Try.underlying25 hi0 hz0 hz1 hz2 rfl (by decide) v n xs hs hown ad m c news hx hnl (fun j u e=>(hnw j u e).1) (fun u hu=>by
   obtain ⟨j,hj,rfl⟩:=List.mem_iff_getElem.1 hu
   exact (hnw j _ (List.getElem?_eq_getElem hj)).2) (by unfold maxLen; omega) (by omega) hbase (fun v' w' h2 h3 _=>?_)
  refine h v' w' news h2 hnl (fun b o e i hi=>?_) (below_of_grown h3 (fun g hg=>(World.ownsRow.lt hown g hg).1) hbase)
  obtain rfl:=Option.some.inj e
  have hi':i < news.length:=by omega
  have:=(hnw i _ (List.getElem?_eq_getElem hi')).1
  rw [add_plain] at this
  rw [List.getElem?_eq_getElem hi']
  exact this.symm
theorem IListAt.src {w:World} {a:Option Addr} {xs:List Raw} (h:IListAt w a xs):0 < xs.length → ∃ b o,a = some ⟨b,o,none⟩ ∧ ∀ i,i < xs.length * 2 → ∃ u,w.cell? ⟨b,o + i,none⟩ = some u ∧ u.oneCell' = true:=fun h0=>by
 obtain ⟨b,o,e,hr⟩:=h h0
 refine ⟨b,o,e,fun i hi=>?_⟩
 obtain ⟨c0,c1,-⟩:=hr (i / 2) (by omega)
 have key:∀ d,d < 2 → ∃ u,w.cell? ⟨b,o + i / 2 * 2 + d,none⟩ = some u ∧ u.oneCell' = true:=fun d hd=>by
  match d,hd with
  | 0,_=>exact ⟨_,c0,rfl⟩
  | 1,_=>exact ⟨_,c1,rfl⟩
 have h1:=key (i % 2) (by omega)
 rwa [show o + i / 2 * 2 + i % 2 = o + i from by omega] at h1
theorem IListAt.cells {w:World} {b o:Nat} {xs:List Raw} (h:IListAt w (some ⟨b,o,none⟩) xs) {i:Nat} (hi:i < xs.length) {d:Nat} (hd:d < 2):w.cell? ⟨b,o + (i * 2 + d),none⟩ = (xs[i]).cells[d]?:=by
 obtain ⟨b',o',e,hr⟩:=h (by omega)
 injection e with e
 injection e with e1 e2
 subst e1 e2
 obtain ⟨c0,c1,-⟩:=hr i hi
 rw [← Nat.add_assoc]
 match d,hd with
 | 0,_=>exact c0
 | 1,_=>exact c1

def IGreatPost (w:World) (U:Int) (rs:List LRow) (e:Ending) (w':World):Prop:=Below w.heap.size w w' ∧ ∃ g,e = .returned (.bool g) ∧ (g = false → U ≤ 4 ∧ rs.length ≤ 10 ∧ ∀ r ∈ rs,r.xs.length ≤ 6 ∧ r.sz 1)

set_option maxRecDepth 100000 in
set_option maxHeartbeats 6400000 in
theorem igreat_any (U:Int) (a:Option Addr) (cap:Nat) (rs:List LRow) (w:World) (hx:IRowsAt w a rs) :
  Calls Try.prog 9 #[.int .i64 U,.slice a rs.length cap] w (IGreatPost w U rs):=by
 generalize hP:IGreatPost w U rs = Post
 have HP:=hide hP
 clear hP
 have HX:=hide hx
 clear hx
 have HT:Hid (∀ w',Below w.heap.size w w' → Post (.returned (.bool true)) w'):=hide (fun w' hb=>by
  rw [← HP.out]
  exact ⟨hb,true,rfl,fun h=>by cases h⟩)
 rcases Int.lt_or_le 4 U with hU | hU
 ·have e1:decide (4 < U) = true:=decide_eq_true hU
  go_enter Try.func9,Try.ntmps9
  go_wp2_with fail
  exact HT.out _ (Below.refl _ _)
 ·have e1:decide (4 < U) = false:=decide_eq_false (by omega)
  have e2:¬4 < U:=by omega
  rcases Nat.lt_or_ge 10 rs.length with hL | hL
  ·have e3:decide (10 < (rs.length:Int)) = true:=decide_eq_true (by omega)
   go_enter Try.func9,Try.ntmps9
   go_wp2_with fail
   exact HT.out _ (Below.refl _ _)
  ·have e3:decide (10 < (rs.length:Int)) = false:=decide_eq_false (by omega)
   have e4:¬10 < (rs.length:Int):=by omega
   go_enter Try.func9,Try.ntmps9
   go_wp2_with fail
   go_loopg [18] rs.length (fun k v18 wr=>∃ j:Nat,j + k = rs.length ∧ v18 = .int .i64 (j:Int) ∧ Below w.heap.size w wr ∧ Hid (∀ i (h:i < rs.length),i < j → (rs[i]).xs.length ≤ 6 ∧ (rs[i]).sz 1))
   case atStart=>exact ⟨0,by omega,rfl,Below.refl _ _,hide (fun i _ h=>absurd h (Nat.not_lt_zero _))⟩
   case round=>
    obtain ⟨j,hjk,rfl,hB,HJ⟩:=hrel
    rcases Nat.eq_zero_or_pos gk with h0 | h0
    ·subst h0
     obtain hj:j = rs.length:=by omega
     subst hj
     have HE:Hid (Post (.returned (.bool false)) wr):=hide (by
      rw [← HP.out]
      refine ⟨hB,false,rfl,fun _=>⟨hU,hL,fun r hr=>?_⟩⟩
      obtain ⟨i,hi,rfl⟩:=List.mem_iff_getElem.1 hr
      exact HJ.out i hi hi)
     clear HJ hjk
     go_wp2_with fail
     exact HE.out
    ·have hj:j < rs.length:=by omega
     have ej:(j:Int) < (rs.length:Int):=by omega
     obtain ⟨b,o,rfl,hr⟩:=HX.out (by omega)
     obtain ⟨r0,rfit,rcs,m0,m1,-⟩:=(hr j hj).below hB (Nat.le_refl _)
     have HJ2:Hid ((rs[j]).xs.length ≤ 6 ∧ (rs[j]).sz 1 → ∀ i (h:i < rs.length),i < j + 1 → (rs[i]).xs.length ≤ 6 ∧ (rs[i]).sz 1):=hide (fun h i hi hlt=>by
      by_cases he:i = j
      ·subst he; exact h
      ·exact HJ.out i hi (by omega))
     obtain ⟨r,hrr⟩:∃ r,rs[j] = r:=⟨_,rfl⟩
     rw [hrr] at r0 rfit rcs m0 m1 HJ2
     replace hr:=hide hr
     clear hrr HJ
     obtain ⟨W2,hW2⟩:∃ W2,wr.alloc (.cells #[.slice r.at_ r.xs.length r.cap,.bool r.most.neg,.slice r.most.at_ r.most.ds.length r.most.cap] 48) = W2:=⟨_,rfl⟩
     have bx:Blk W2 wr.heap.size 48 #[.slice r.at_ r.xs.length r.cap,.bool r.most.neg,.slice r.most.at_ r.most.ds.length r.most.cap]:=by rw [← hW2]; exact Blk.new _ _ _
     have sb2:Below wr.heap.size wr W2:=by rw [← hW2]; exact (Below.refl _ _).alloc (Nat.le_refl _) _
     obtain ⟨gx,hgx⟩:∃ gx,wr.heap.size = gx:=⟨_,rfl⟩
     have hB2:Below w.heap.size w W2:=hB.trans (sb2.mono hB.size)
     replace rcs:=rcs.below sb2 (Nat.le_refl _)
     rw [hgx] at bx
     have HW2:=hide hW2
     have HGX:=hide hgx
     clear hW2 hgx sb2 hB
     go_upto_region 6 with (fail)
     rw [HW2.out,HGX.out]
     clear HW2 HGX r0 m0 m1
     have x0:W2.cell? ⟨gx,0,none⟩ = some (.slice r.at_ r.xs.length r.cap):=bx.cell 0
     rcases Nat.lt_or_ge 6 r.xs.length with hx10 | hx10
     ·have e5:decide (6 < (r.xs.length:Int)) = true:=decide_eq_true (by omega)
      go_wp2_with fail
      exact HT.out _ hB2
     ·have e5:decide (6 < (r.xs.length:Int)) = false:=decide_eq_false (by omega)
      have e6:¬6 < (r.xs.length:Int):=by omega
      have x1:W2.cell? ⟨gx,1,none⟩ = some (.bool r.most.neg):=bx.cell 1
      have x2:W2.cell? ⟨gx,2,none⟩ = some (.slice r.most.at_ r.most.ds.length r.most.cap):=bx.cell 2
      obtain ⟨N3,hN3⟩:∃ N3,W2.heap.size = N3:=⟨_,rfl⟩
      obtain ⟨W3,hW3⟩:∃ W3,W2.alloc (.cells #[.bool r.most.neg,.slice r.most.at_ r.most.ds.length r.most.cap] 38) = W3:=⟨_,rfl⟩
      have how:W3.ownsRow N3 38 2 (.slice (some ⟨N3,0,none⟩) 1 1) 1 r.most.cells:=by
       rw [← hW3,← hN3]
       exact ⟨rfl,.inr ⟨_,1,_,rfl,Nat.le_refl _,heap_alloc_new W2 _,Nat.le_refl _,by unfold maxLen; omega,rfl,rfl⟩⟩
      have hb3:Below W2.heap.size W2 W3:=by rw [← hW3]; exact (Below.refl _ _).alloc (Nat.le_refl _) _
      have rcs3:=rcs.below hb3 (Nat.le_refl _)
      have x03:=cellB x0 hb3 (Nat.le_refl _)
      have hN33:N3 ≤ W3.heap.size:=by rw [← hN3]; exact hb3.size
      have hB3:Below w.heap.size w W3:=hB2.trans (hb3.mono hB2.size)
      have hNw:w.heap.size ≤ N3:=by rw [← hN3]; exact hB2.size
      have HSRC:=hide rcs3.src
      have HRC:=hide rcs3
      have HW3:=hide hW3
      have HN3:=hide hN3
      have HFIT:=hide rfit
      have HOW:=hide how
      clear hW3 hN3 hb3 rcs3 rcs rfit how
      have hap:∀ (ops:Array Oper) (rest:List Oper) (o:Oper) (a:Act) (Q:Exit → Act → World → Prop),o.guard = none → o.op = Op.call { callee:=.builtin .append,args:=#[.tmp 28,.tmp 30],argTypes:=#[25,25] } →
        a.eval (.tmp 28) = .slice (some ⟨W2.heap.size,0,none⟩) 1 1 → a.eval (.tmp 30) = .slice r.at_ r.xs.length r.cap →
        (∀ v' w' news,w'.ownsRow N3 38 2 v' (1 + r.xs.length) (r.most.cells ++ news) → news.length = r.xs.length * 2 → (∀ b o,r.at_ = some ⟨b,o,none⟩ → ∀ i,i < r.xs.length * 2 → news[i]? = W3.cell? ⟨b,o + i,none⟩) → Below N3 W3 w' → wpList Try.prog ops Q rest (a.put o.dst v') w') →
        wpList Try.prog ops Q (o :: rest) a (W2.alloc (.cells #[.bool r.most.neg,.slice r.most.at_ r.most.ds.length r.most.cap] 38)):=by
       intro ops rest o a Q hgd ho hs hx h
       rw [HW3.out]
       rw [HN3.out] at hs
       exact wpList_append_li hgd (.tmp 28) (.tmp 30) ho N3 _ 1 r.most.cells hs HOW.out r.at_ r.xs.length r.cap hx HFIT.out HSRC.out (by omega) hN33 h
      have HAP:=hide hap
      have x0b:(W2.alloc (.cells #[.bool r.most.neg,.slice r.most.at_ r.most.ds.length r.most.cap] 38)).cell? ⟨gx,0,none⟩ = some (.slice r.at_ r.xs.length r.cap):=by rw [HW3.out]; exact x03
      clear hap x03
      go_wp2_with (at_builtin; refine HAP.out _ _ _ _ _ rfl rfl rfl rfl ?_)
      intro v' w4 news hown hnl hnw hb4
      obtain ⟨va,vc,rfl⟩:=own_slice hown
      obtain ⟨g,cs,rfl,hg,hblk,hcs⟩:=own_cells hown (by omega)
      have hB4:Below w.heap.size w w4:=hB3.trans (hb4.mono hNw)
      have hcl:∀ i (h:i < (r.most :: r.xs).length) (d:Nat),d < 2 → w4.cell? ⟨g,i * 2 + d,none⟩ = ((r.most :: r.xs)[i]).cells[d]?:=fun i h d hd=>by
       have h':i < 1 + r.xs.length:=by rw [List.length_cons] at h; omega
       rw [hblk.cell,hcs _ (by omega)]
       match i,h with
       | 0,_=>
        rw [List.getElem?_append_left (by simp [Raw.cells]; omega),Nat.zero_mul,Nat.zero_add]
        rfl
       | i' + 1,h=>
        have hi':i' < r.xs.length:=by simpa using h
        rw [List.getElem?_append_right (by simp [Raw.cells]; omega),show (i' + 1) * 2 + d - r.most.cells.length = i' * 2 + d from by simp [Raw.cells]; omega]
        obtain ⟨b',o',e,_⟩:=HRC.out (by omega)
        rw [hnw b' o' e _ (by omega)]
        have hla:=HRC.out
        rw [e] at hla
        exact hla.cells hi' hd
      have HCL:=hide hcl
      have HL:Hid ((r.most :: r.xs).length = 1 + r.xs.length):=hide (by rw [List.length_cons]; omega)
      generalize hys:r.most :: r.xs = ys at HCL HL
      have HYS:=hide hys
      clear hcl hown hnl hnw hb4 hcs hblk hys x0 x1 x2 x0b
      go_wp2_with fail
      obtain ⟨gk1,hK1⟩:∃ K1,K1 = gk:=⟨_,rfl⟩
      subst hK1
      go_loopg [33] (1 + r.xs.length) (fun k v33 wr=>∃ i:Nat,i + k = 1 + r.xs.length ∧ v33 = .int .i64 (i:Int) ∧ Below w4.heap.size w4 wr ∧ Hid (∀ q (h:q < ys.length),q < i → (ys[q]).ds.length ≤ 1))
      case atStart=>exact ⟨0,by omega,rfl,Below.refl _ _,hide (fun q _ h=>absurd h (Nat.not_lt_zero _))⟩
      case round=>
       obtain ⟨i,hik,rfl,hB,HI⟩:=hrel
       have hB5:=hB4.trans (hB.mono hB4.size)
       rcases Nat.eq_zero_or_pos gk with h0 | h0
       ·subst h0
        obtain hi:i = 1 + r.xs.length:=by omega
        have HE:Hid (r.xs.length ≤ 6 ∧ r.sz 1):=hide ⟨hx10,by
         have h1:∀ R ∈ r.most :: r.xs,R.ds.length ≤ 1:=fun R hR=>by
          rw [HYS.out] at hR
          obtain ⟨q,hq,rfl⟩:=List.mem_iff_getElem.1 hR
          exact HI.out q hq (by rw [hi,← HL.out]; exact hq)
         exact ⟨h1 _ (List.mem_cons_self ..),fun R hR=>h1 R (List.mem_cons_of_mem _ hR)⟩⟩
        have ei:¬(i:Int) < 1 + (r.xs.length:Int):=by omega
        clear HI hik
        subst hi
        go_wp2_with fail
        go_roundg (gk1 - 1)
        case measure=>omega
        case rel=>exact ⟨j + 1,by omega,by go_num,hB5,hide (HJ2.out HE.out)⟩
       ·have hi:i < 1 + r.xs.length:=by omega
        have hi2:i < ys.length:=by rw [HL.out]; exact hi
        have ei:(i:Int) < 1 + (r.xs.length:Int):=by omega
        have ei2:(i:Int) < ((1 + r.xs.length:Nat):Int):=by omega
        have y0:=(hB.cell (p:=⟨g,i * 2,none⟩) (World.block_lt_of_cell? w4 _ (HCL.out i hi2 0 (by decide)))).trans (HCL.out i hi2 0 (by decide))
        have y1:=(hB.cell (p:=⟨g,i * 2 + 1,none⟩) (World.block_lt_of_cell? w4 _ (HCL.out i hi2 1 (by decide)))).trans (HCL.out i hi2 1 (by decide))
        have HI2:Hid ((ys[i]).ds.length ≤ 1 → ∀ q (h:q < ys.length),q < i + 1 → (ys[q]).ds.length ≤ 1):=hide (fun h q hq hlt=>by
         by_cases he:q = i
         ·subst he; exact h
         ·exact HI.out q hq (by omega))
        obtain ⟨R,hRR⟩:∃ R,ys[i] = R:=⟨_,rfl⟩
        rw [hRR] at y0 y1 HI2
        replace y0:wr.cell? ⟨g,i * 2,none⟩ = some (.bool R.neg):=y0
        replace y1:wr.cell? ⟨g,i * 2 + 1,none⟩ = some (.slice R.at_ R.ds.length R.cap):=y1
        clear hRR HI
        obtain ⟨W5,hW5⟩:∃ W5,wr.alloc (.cells #[.bool R.neg,.slice R.at_ R.ds.length R.cap] 38) = W5:=⟨_,rfl⟩
        have bf:Blk W5 wr.heap.size 38 #[.bool R.neg,.slice R.at_ R.ds.length R.cap]:=by rw [← hW5]; exact Blk.new _ _ _
        have hb5:Below wr.heap.size wr W5:=by rw [← hW5]; exact (Below.refl _ _).alloc (Nat.le_refl _) _
        have hBB:=hB.trans (hb5.mono hB.size)
        have hBw:=hB5.trans (hb5.mono hB5.size)
        obtain ⟨gf,hgf⟩:∃ gf,wr.heap.size = gf:=⟨_,rfl⟩
        rw [hgf] at bf
        have HW5:=hide hW5
        have HGF:=hide hgf
        clear hW5 hgf hb5 hB hB5
        go_upto_region 11 with (fail)
        rw [HW5.out,HGF.out]
        clear HW5 HGF y0 y1
        obtain ⟨z0,z1,-⟩:=bf.c2
        rcases Nat.lt_or_ge 1 R.ds.length with hu | hu
        ·have e7:decide (1 < (R.ds.length:Int)) = true:=decide_eq_true (by omega)
         go_wp2_with fail
         exact HT.out _ hBw
        ·have e7:decide (1 < (R.ds.length:Int)) = false:=decide_eq_false (by omega)
         have e8:¬1 < (R.ds.length:Int):=by omega
         go_wp2_with fail
         go_roundg (gk - 1)
         case measure=>omega
         case rel=>exact ⟨i + 1,by omega,by go_num,hBB,hide (HI2.out hu)⟩
end Go.Proofs.Ytphjffbldhhdiaa
