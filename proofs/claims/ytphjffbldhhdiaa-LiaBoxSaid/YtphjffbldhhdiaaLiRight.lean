/- collatorref18.Right: by its contract. -/
import Derived.Test.YtphjffbldhhdiaaLiRaw
namespace Go.Proofs.Ytphjffbldhhdiaa
open Go.RowKit

theorem ri_at {c:World} (R:Raw) (hR:RawOk c R) {r:Bool} (hr:R.ok = r):Calls Try.prog 13 #[.agg #[.bool R.neg,.slice R.at_ R.ds.length R.cap]] c fun e w'=>e = .returned (.bool r) ∧ Below c.heap.size c w':=by
 subst hr
 exact RRight_any R.neg R.at_ R.cap R.ds c hR.dig hR.max

theorem iright_false {U:Int} {rs:List LRow} {j:Nat} (hj:j < rs.length) (h:(rs[j]).right U = false):rightI U rs = false:=by
 unfold rightI
 have:rs.all (LRow.right U) = false:=List.all_eq_false.2 ⟨rs[j],List.getElem_mem hj,by rw [h]; decide⟩
 rw [this]
 simp
theorem iright_true {U:Int} {rs:List LRow} (h0:0 ≤ U) (h1:U ≤ 1000) (h:∀ i (h:i < rs.length),(rs[i]).right U = true):rightI U rs = true:=by
 unfold rightI
 rw [decide_eq_true h0,decide_eq_true h1,Bool.true_and,Bool.true_and,List.all_eq_true]
 intro r hr
 obtain ⟨i,hi,rfl⟩:=List.mem_iff_getElem.1 hr
 exact h i hi

set_option maxRecDepth 100000 in
set_option maxHeartbeats 6400000 in
theorem iright_any (U:Int) (a:Option Addr) (cap:Nat) (rs:List LRow) (w:World) (hx:IRowsAt w a rs) (hl:rs.length ≤ 1000) (hxl:∀ r ∈ rs,r.xs.length ≤ 1000000) {res:Bool} (hres:rightI U rs = res) :
  Calls Try.prog 12 #[.int .i64 U,.slice a rs.length cap] w fun e w'=>e = .returned (.bool res) ∧ Below w.heap.size w w':=by
 have HX:=hide hx
 have HL:=hide hxl
 have HRES:=hide hres
 clear hx hxl hres
 rcases Int.lt_or_le U 0 with hU | hU
 ·have HR:Hid (false = res):=hide (by rw [← HRES.out]; unfold rightI; rw [decide_eq_false (by omega)]; rfl)
  obtain rfl:=HR.out
  have e1:decide (U < 0) = true:=decide_eq_true hU
  go_enter Try.func12,Try.ntmps12
  go_wp2_with fail
  go_ret
  exact ⟨rfl,Below.refl _ _⟩
 ·rcases Int.lt_or_le 1000 U with hU2 | hU2
  ·have HR:Hid (false = res):=hide (by rw [← HRES.out]; unfold rightI; rw [decide_eq_true hU,decide_eq_false (by omega)]; rfl)
   obtain rfl:=HR.out
   have e1:decide (U < 0) = false:=decide_eq_false (by omega)
   have e2:decide (1000 < U) = true:=decide_eq_true hU2
   have e3:¬U < 0:=by omega
   go_enter Try.func12,Try.ntmps12
   go_wp2_with fail
   go_ret
   exact ⟨rfl,Below.refl _ _⟩
  ·obtain ⟨n,rfl⟩:∃ n:Nat,U = (n:Int):=⟨U.toNat,by omega⟩
   have hn:n ≤ 1000:=by omega
   have e1:decide ((n:Int) < 0) = false:=decide_eq_false (by omega)
   have e2:decide (1000 < (n:Int)) = false:=decide_eq_false (by omega)
   have e3:¬(n:Int) < 0:=by omega
   have e4:¬1000 < (n:Int):=by omega
   go_enter Try.func12,Try.ntmps12
   go_wp2_with fail
   go_loopg [5] rs.length (fun k v5 wr=>∃ j:Nat,j + k = rs.length ∧ v5 = .int .i64 (j:Int) ∧ Below w.heap.size w wr ∧ Hid (∀ i (h:i < rs.length),i < j → (rs[i]).right (n:Int) = true))
   case atStart=>exact ⟨0,by omega,rfl,Below.refl _ _,hide (fun i _ h=>absurd h (Nat.not_lt_zero _))⟩
   case round=>
    obtain ⟨j,hjk,rfl,hB,HJ⟩:=hrel
    rcases Nat.eq_zero_or_pos gk with h0 | h0
    ·subst h0
     obtain hj:j = rs.length:=by omega
     subst hj
     have HR:Hid (true = res):=hide ((iright_true (by omega) (by omega) (fun i hi=>HJ.out i hi hi)).symm.trans HRES.out)
     obtain rfl:=HR.out
     clear HJ hjk
     go_wp2_with fail
     go_ret
     exact ⟨rfl,hB⟩
    ·have hj:j < rs.length:=by omega
     have ej:(j:Int) < (rs.length:Int):=by omega
     obtain ⟨b,o,rfl,hr⟩:=HX.out (by omega)
     obtain ⟨r0,rfit,rcs,m0,m1,mok⟩:=(hr j hj).below hB (Nat.le_refl _)
     have hln:=HL.out rs[j] (List.getElem_mem hj)
     have HBD:Hid ((rs[j]).right n = false → false = res):=hide (fun h=>(iright_false hj h).symm.trans HRES.out)
     have HJ2:Hid ((rs[j]).right n = true → ∀ i (h:i < rs.length),i < j + 1 → (rs[i]).right (n:Int) = true):=hide (fun h i hi hlt=>by
      by_cases he:i = j
      ·subst he; exact h
      ·exact HJ.out i hi (by omega))
     obtain ⟨r,hrr⟩:∃ r,rs[j] = r:=⟨_,rfl⟩
     rw [hrr] at r0 rfit rcs m0 m1 mok hln HBD HJ2
     replace hr:=hide hr
     clear hrr HJ
     by_cases hlen:r.xs.length = n
     ·have e5:((r.xs.length:Int) != (n:Int)) = false:=by simp [hlen]
      replace hlen:=hide hlen
      cases hf:r.most.ok with
      | false=>
       have HE:Hid (r.right n = false):=hide (by unfold LRow.right; rw [hf,Bool.false_and,Bool.and_false])
       obtain rfl:=HBD.out HE.out
       have HF:=hide hf
       clear hf
       go_wp2_with fail
       refine (ri_at r.most mok HF.out).mono ?_
       rintro e w2 ⟨rfl,hb2⟩
       have hB2:=hB.trans (hb2.mono hB.size)
       clear m0 m1 r0
       go_wp2_with fail
       go_ret
       exact ⟨rfl,hB2⟩
      | true=>
       have HF:=hide hf
       clear hf
       go_wp2_with fail
       refine (ri_at r.most mok HF.out).mono ?_
       rintro e w2 ⟨rfl,hb2⟩
       have hB2:=hB.trans (hb2.mono hB.size)
       have q0:=cellB r0 hb2 (Nat.le_refl _)
       have qcs:=rcs.below hb2 (Nat.le_refl _)
       clear m0 m1 r0 rcs
       go_wp2_with fail
       obtain ⟨gk1,hK1⟩:∃ K1,K1 = gk:=⟨_,rfl⟩
       subst hK1
       go_loopg [6] n (fun k v6 wr=>∃ c:Nat,c + k = n ∧ v6 = .int .i64 (c:Int) ∧ Below w2.heap.size w2 wr ∧ Hid (∀ i (h:i < r.xs.length),i < c → (r.xs[i]).ok = true))
       case atStart=>exact ⟨0,by omega,rfl,Below.refl _ _,hide (fun i _ h=>absurd h (Nat.not_lt_zero _))⟩
       case round=>
        obtain ⟨c,hck,rfl,hC,HC⟩:=hrel
        have hB3:=hB2.trans (hC.mono hB2.size)
        rcases Nat.eq_zero_or_pos gk with h0 | h0
        ·subst h0
         obtain rfl:c = n:=by omega
         have HE:Hid (r.right c = true):=hide (by
          unfold LRow.right
          rw [HF.out,List.all_eq_true.2 (fun x hx=>by
           obtain ⟨i,hi,rfl⟩:=List.mem_iff_getElem.1 hx
           exact HC.out i hi (by have:=hlen.out; omega)),decide_eq_true (by have:=hlen.out; omega)]
          rfl)
         clear HC hck hB2
         go_wp2_with fail
         go_roundg (gk1 - 1)
         case measure=>omega
         case rel=>exact ⟨j + 1,by omega,by go_num,hB3,hide (HJ2.out HE.out)⟩
        ·have hc:c < n:=by omega
         have ec:(c:Int) < (r.xs.length:Int):=by have:=hlen.out; omega
         have hc2:c < r.xs.length:=by have:=hlen.out; omega
         have p0:=cellB q0 hC (Nat.le_refl _)
         obtain ⟨xb,xo,hxa,hxr⟩:=qcs (by omega)
         rw [hxa] at p0
         obtain ⟨x0,x1,xok⟩:=(hxr c hc2).below hC (Nat.le_refl _)
         have HFF:Hid ((r.xs[c]).ok = false → false = res):=hide (fun h=>HBD.out (by
          unfold LRow.right
          rw [List.all_eq_false.2 ⟨r.xs[c],List.getElem_mem hc2,by rw [h]; decide⟩,Bool.and_false,Bool.and_false]))
         have HC2:Hid ((r.xs[c]).ok = true → ∀ i (h:i < r.xs.length),i < c + 1 → (r.xs[i]).ok = true):=hide (fun h i hi hlt=>by
          by_cases he:i = c
          ·subst he; exact h
          ·exact HC.out i hi (by omega))
         obtain ⟨R,hRR⟩:∃ R,r.xs[c] = R:=⟨_,rfl⟩
         rw [hRR] at x0 x1 xok HFF HC2
         replace hxr:=hide hxr
         replace hxa:=hide hxa
         have QCS:=hide qcs
         have HXX:=hide qcs
         clear hRR qcs HC
         cases hf:R.ok with
         | false=>
          obtain rfl:=HFF.out hf
          have HF2:=hide hf
          clear hf
          go_wp2_with fail
          refine (ri_at R xok HF2.out).mono ?_
          rintro e w4 ⟨rfl,hb4⟩
          have hB4:=hB3.trans (hb4.mono hB3.size)
          clear x0 x1 p0
          go_wp2_with fail
          go_ret
          exact ⟨rfl,hB4⟩
         | true=>
          have HF2:=hide hf
          clear hf
          go_wp2_with fail
          refine (ri_at R xok HF2.out).mono ?_
          rintro e w4 ⟨rfl,hb4⟩
          have hC4:=hC.trans (hb4.mono hC.size)
          clear x0 x1 p0
          go_wp2_with fail
          go_roundg (gk - 1)
          case measure=>omega
          case rel=>exact ⟨c + 1,by omega,by go_num,hC4,hide (HC2.out HF2.out)⟩
     ·have e5:((r.xs.length:Int) != (n:Int)) = true:=by simp; omega
      have e6:¬(r.xs.length:Int) = (n:Int):=by omega
      have HE:Hid (r.right n = false):=hide (by unfold LRow.right; rw [decide_eq_false (by omega)]; rfl)
      obtain rfl:=HBD.out HE.out
      go_wp2_with fail
      go_ret
      exact ⟨rfl,hB⟩
end Go.Proofs.Ytphjffbldhhdiaa
