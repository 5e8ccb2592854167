/- Rows that are made. -/
import Derived.Test.YtphjffbldhhdiaaLiMem
import Derived.Test.YtphjffbldhhdiaaLiRows
namespace Go.Proofs.Ytphjffbldhhdiaa
open Go.RowKit

theorem made_get {zc:Array Value} {n i d:Nat} (hi:i < n) (hd:d < zc.size):(madeCells zc (n * zc.size))[i * zc.size + d]? = zc[d]?:=by
 have h1:i * zc.size + d < n * zc.size:=by
  have h:=Nat.mul_le_mul_right zc.size (show i + 1 ≤ n from hi)
  rw [Nat.add_mul,Nat.one_mul] at h
  omega
 have h2:(i * zc.size + d) % zc.size = d:=by
  rw [Nat.mul_comm,Nat.mul_add_mod]
  exact Nat.mod_eq_of_lt hd
 unfold madeCells
 rw [Array.getElem?_map,Array.getElem?_range,if_pos h1]
 simp [h2,hd]
theorem made_mem {zc:Array Value} {k:Nat} {u:Value} (h0:0 < zc.size) (h:u ∈ madeCells zc k):u ∈ zc:=by
 unfold madeCells at h
 obtain ⟨i,_,rfl⟩:=Array.mem_map.1 h
 have hi:i % zc.size < zc.size:=Nat.mod_lt _ h0
 simp only [getElem!_pos zc (i % zc.size) hi]
 exact Array.getElem_mem hi
def MadeB (w:World) (g:Nat) (e:TypeId) (z:Value) (n:Nat):Prop:=CB w g e (n * z.cells.size) ∧ ∀ i d,i < n → d < z.cells.size → w.cell? ⟨g,i * z.cells.size + d,none⟩ = z.cells[d]?
section
variable {w:World} {ops:Array Oper} {rest:List Oper} {o:Oper} {a:Act} {Q:Exit → Act → World → Prop} {T e:TypeId} {z:Value} {size bytes n:Nat}
theorem made_b {w w':World} (hzs:z.cells.size = size) (h0:0 < size) (hzu:∀ u ∈ z.cells,NoU u) (h1:w'.ownsRow w.heap.size e size (.slice (some ⟨w.heap.size,0,none⟩) n n) n (madeCells z.cells (n * size)).toList):MadeB w' w.heap.size e z n:=by
 have h3:=own_rowN h1
 rw [Array.toArray_toList] at h3
 subst hzs
 refine ⟨⟨_,h3,by simp [madeCells],fun u hu=>hzu u (made_mem h0 hu)⟩,fun i d hi hd=>?_⟩
 rw [h3.cell]
 exact made_get hi hd
theorem wpList_make_b (hgd:o.guard = none) (l c:Operand) (ho:o.op = Op.makeSlice T l c) (hT:Try.prog.underlying T = some (.slice e))
  (hi:(Try.prog.info? e).map (fun i=>(i.zero,i.size,i.bytes)) = some (some z,size,bytes)) (hzs:z.cells.size = size) (h0:0 < size) (hb:bytes ≤ 1000) (hzu:∀ u ∈ z.cells,NoU u)
  (hl:a.eval l = .int .i64 (n:Int)) (hc:a.eval c = .int .i64 (n:Int)) (hn:n ≤ 1000000)
  (hK:∀ w',MadeB w' w.heap.size e z n → Below w.heap.size w w' → wpList Try.prog ops Q rest (a.put o.dst (.slice (some ⟨w.heap.size,0,none⟩) n n)) w'):wpList Try.prog ops Q (o :: rest) a w:=by
 obtain ⟨i0,hi0,hz0,hz1,hz2⟩:=info_parts hi
 have hbn:bytes * n ≤ 1000 * 1000000:=Nat.mul_le_mul hb hn
 refine wpList_make_full w hgd l c T ho w.heap.size e i0 z size hT hi0 hz0 hz1 .i64 .i64 (n:Int) (n:Int) n hl hc rfl rfl (by rw [hz2]; omega) (by unfold maxLen; omega) (Nat.le_refl _) (fun w' h1 h2=>?_)
 exact hK w' (made_b hzs h0 hzu h1) (below_of_grown h2 (fun g h=>by cases h) (Nat.le_refl _))
theorem step_make_b {K:Act → World → Prop} {E:Prop} (hgd:o.guard = none) (l c:Operand) (ho:o.op = Op.makeSlice T l c) (hT:Try.prog.underlying T = some (.slice e))
  (hi:(Try.prog.info? e).map (fun i=>(i.zero,i.size,i.bytes)) = some (some z,size,bytes)) (hzs:z.cells.size = size) (h0:0 < size) (hb:bytes ≤ 1000) (hzu:∀ u ∈ z.cells,NoU u)
  (hl:a.eval l = .int .i64 (n:Int)) (hc:a.eval c = .int .i64 (n:Int)) (hn:n ≤ 1000000)
  (h:∀ w',MadeB w' w.heap.size e z n → Below w.heap.size w w' → K (a.put o.dst (.slice (some ⟨w.heap.size,0,none⟩) n n)) w'):if Region.wanted o (yielded ops a.tmps) = true then Oper.wp Try.prog o a w K Q else E:=by
 have hw:Region.wanted o (yielded ops a.tmps) = true:=by simp [Region.wanted,hgd]
 rw [if_pos hw]
 obtain ⟨i0,hi0,hz0,hz1,hz2⟩:=info_parts hi
 have hbn:bytes * n ≤ 1000 * 1000000:=Nat.mul_le_mul hb hn
 obtain ⟨w',hrun,r1,r2⟩:=run_make_full (P:=Try.prog) w w.heap.size T e i0 z size hT hi0 hz0 hz1 .i64 .i64 n (by rw [hz2]; omega) (by unfold maxLen; omega) (Nat.le_refl _)
 have hM:=made_b hzs h0 hzu r1
 unfold Oper.wp
 simp [execOp,ho,hl,hc,hrun,Result.andThen]
 exact h _ hM (below_of_grown r2 (fun g h=>by cases h) (Nat.le_refl _))
end
theorem zeroI_calm:∀ u ∈ zeroI.cells,NoU u:=fun u hu=>by
 simp only [zeroI,Value.cells,List.mem_toArray,List.mem_cons,List.not_mem_nil,or_false] at hu
 rcases hu with rfl | rfl
 ·exact NoU.bool _
 ·exact NoU.slice _ _ _
theorem MadeB.int {w:World} {g n c:Nat} (h:MadeB w g 38 zeroI n) (hc:c < n):IAt w g (c * 2) 0:=
 ⟨false,none,0,0,h.2 c 0 hc (by decide),h.2 c 1 hc (by decide),IntV.zero w⟩
end Go.Proofs.Ytphjffbldhhdiaa
