/- A fraction that came in. -/
import Derived.Test.YthpibilefdmemaaDoorFOdd
namespace Go.Proofs.YthpibilefdmemaaDoor
open Go.ChangeShapes Go.WideShapes Go.ChangeAt Go.RowKit

theorem cellsI : Tryd.prog.cellsOf 24 = 2 := by kernel_rfl
theorem cellsF : Tryd.prog.cellsOf 58 = 4 := by kernel_rfl
set_option maxRecDepth 100000 in
/-- An integer's two cells. -/
theorem open_two {H : Type} {enc : TypeId × Value → H} {W : World} {n : Nat} {c0 c1 : Value} {y : DataW H × List MemPlace} (h : DataW.trod enc Tryd.prog W 0 (fun _ => true) true n 24 [c0, c1] = some y) :
    ∃ R : Raw, c0 = .bool R.neg ∧ c1 = .slice R.at_ R.ds.length R.cap ∧ RawOk W R := by
  obtain ⟨y0, y1, m, _, _, h0, h1⟩ := Go.ChangeShapes.trod_struct2 Tryd.underlying24 h
  have h0' : DataW.trod enc Tryd.prog W 0 (fun _ => true) true m 4 [c0] = some y0 := h0
  have h1' : DataW.trod enc Tryd.prog W 0 (fun _ => true) true m 22 [c1] = some y1 := h1
  obtain ⟨b, e0, _⟩ := DataW.trod_bool Tryd.underlying4 h0'
  obtain ⟨a, c, ds, rfl, hd, hf, hl⟩ := open_digits h1'
  simp at e0
  subst e0
  exact ⟨⟨b, a, c, ds⟩, rfl, rfl, ⟨hd, hf, hl⟩⟩

set_option maxRecDepth 100000 in
/-- A fraction that came in. -/
theorem open_rfrac {H : Type} {enc : TypeId × Value → H} {W : World} {b0 : Nat} {r : Reach} {v : Value} {d : DataW H} {p : List MemPlace} (hv : Value.okWide Tryd.prog W r b0 58 v) (h : DataW.Trod enc Tryd.prog W 0 (fun _ => true) true 58 v d p) :
    ∃ R : RFr, v = R.val ∧ RFrOk W R := by
  obtain ⟨cs, rfl, hsz⟩ := okWide_struct Tryd.underlying58 hv
  have h4 : cs.size = 4 := hsz.trans cellsF
  obtain ⟨c0, c1, c2, c3, rfl⟩ : ∃ c0 c1 c2 c3, cs = #[c0, c1, c2, c3] := by
    obtain ⟨l⟩ := cs
    match l, h4 with
    | [c0, c1, c2, c3], _ => exact ⟨c0, c1, c2, c3, rfl⟩
  obtain ⟨fuel, hf⟩ := h
  obtain ⟨y0, y1, n, _, _, h0, h1⟩ := Go.ChangeShapes.trod_struct2 Tryd.underlying58 hf
  have h0' : DataW.trod enc Tryd.prog W 0 (fun _ => true) true n 24 [c0, c1] = some y0 := by
    have h := h0
    simpa [Value.cells, cellsI] using h
  have h1' : DataW.trod enc Tryd.prog W 0 (fun _ => true) true n 24 [c2, c3] = some y1 := by
    have h := h1
    simpa [Value.cells, cellsI] using h
  obtain ⟨R, rfl, rfl, hR⟩ := open_two h0'
  obtain ⟨S, rfl, rfl, hS⟩ := open_two h1'
  exact ⟨⟨R, S⟩, rfl, ⟨hR, hS⟩⟩
end Go.Proofs.YthpibilefdmemaaDoor
