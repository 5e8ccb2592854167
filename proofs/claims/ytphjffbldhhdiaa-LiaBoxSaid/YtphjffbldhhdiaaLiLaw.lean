/- What the laws of collatorlaw18 ask of rows: plain. -/
import Derived.Test.YtphjffbldhhdiaaLiPlain
namespace Go.Proofs.Ytphjffbldhhdiaa

theorem row_same {S S':ISys} {p q:Nat → Int} {i i':Nat} (hn:S'.n = S.n) (hA:∀ c,c < S.n → S'.A i' c = S.A i c) (hM:S'.most i' = S.most i) (hp:∀ c,c < S.n → q c = p c):S'.Row q i' ↔ S.Row p i:=by
 unfold ISys.Row
 rw [hn,hM,sumR_congr (g:=fun c=>((S.A i c:Int):Rat) * ((p c:Int):Rat)) fun c hc=>by rw [hA c hc,hp c hc]]
end Go.Proofs.Ytphjffbldhhdiaa
