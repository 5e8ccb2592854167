/- simplex's Solve of rows by values, with its very answer. -/
import Derived.Test.YtphjffbldhhdiaaSxAns
namespace Go.Proofs.Ytphjffbldhhdiaa
open Go.RowKit

theorem solve_v {S:Sys} {s M:Nat} {a:Option Addr} {cap b o:Nat} (w:World) (hf:Fair S s M) (ha:0 < S.m → a = some ⟨b,o,none⟩) (hR:RowsV w b o S) (hA0:∀ i c,¬(i < S.m ∧ c < S.n) → S.A i c = 0) (hM0:∀ i,S.m ≤ i → S.most i = 0) :
  Calls Try.prog 27 #[.int .i64 (S.n:Int),.slice a S.m cap] w fun e w'=>Below w.heap.size w w' ∧ ∃ v,e = .returned (.tuple #[v,.int .i64 0]) ∧ AnsV w w' S v:=by
 obtain ⟨hn,hm⟩:=And.intro hf.n hf.m
 obtain ⟨rs,r1,r2,r3,r4,r5,r6⟩:=hR.raw2 (N:=1000000000) (by decide) (fun i c hi hc=>Qn.mono (hf.A i c hi hc) (by have:=hf.sLe; omega)) (fun i hi=>Qn.mono (hf.most i hi) hf.MLe) (by omega)
 have hat:RowsAt w a rs:=fun h0=>by
  rw [r3] at h0
  rw [ha h0]
  exact r1 (by rw [r3]; exact h0)
 have eA:timesQ rs = S.A:=funext fun i=>funext fun c=>by
  by_cases h:i < S.m ∧ c < S.n
  ·exact r5 i c h.1 h.2
  ·rw [hA0 i c h]
   unfold timesQ
   by_cases hi:i < rs.length
   ·have hl:=(right_row r2 hi).1
    rw [List.getElem?_eq_getElem hi]
    have hc:rs[i].xs[c]? = none:=List.getElem?_eq_none (by omega)
    simp [hc]
   ·rw [List.getElem?_eq_none (by omega)]
    rfl
 have eM:mostQ rs = S.most:=funext fun i=>by
  by_cases h:i < S.m
  ·exact r6 i h
  ·rw [hM0 i (by omega)]
   unfold mostQ
   rw [List.getElem?_eq_none (by omega)]
   rfl
 have eS:sysOf S.n rs = S:=by
  show (⟨S.n,rs.length,timesQ rs,mostQ rs⟩:Sys) = S
  rw [r3,eA,eM]
 have hx:∀ r ∈ rs,r.xs.length ≤ 1000000:=fun r hr=>by
  obtain ⟨i,hi,rfl⟩:=List.mem_iff_getElem.1 hr
  have:=(right_row r2 hi).1
  omega
 have ht:((S.n:Int)).toNat = S.n:=by omega
 have h:=solve_any (s:=s) (M:=M) (S.n:Int) a cap rs w hat r4 (by omega) hx (fun _=>by rw [ht,eS]; exact hf)
 rw [r3] at h
 refine h.mono ?_
 rintro e w' ⟨hb,⟨h1,_⟩ | ⟨_,v,rfl,hv⟩⟩
 ·rw [r2] at h1; cases h1
 ·rw [ht,eS] at hv
  exact ⟨hb,v,rfl,hv⟩
end Go.Proofs.Ytphjffbldhhdiaa
