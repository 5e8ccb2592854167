/- whole.Gcd: by its contract. -/
import Derived.Test.YthpibilefdmemaaDoorDiv
namespace Go.Proofs.YthpibilefdmemaaDoor
open Go.RowKit

theorem Blk.later {c w' : World} {g : Nat} {t : TypeId} {cs : Array Value} (hb : Below c.heap.size c w') (h : Blk c g t cs) : Blk w' g t cs := h.below hb h.lt
section
variable {w0 c w' : World}
theorem bl_call (h : Below w0.heap.size w0 c) (hb : Below c.heap.size c w') : Below w0.heap.size w0 w' := h.trans (hb.mono h.size)
theorem bl_drew (h : Below w0.heap.size w0 c) : Below w0.heap.size w0 c.drew := h.drew
theorem bl_alloc (h : Below w0.heap.size w0 c) (o : Obj) : Below w0.heap.size w0 (c.alloc o) := h.alloc h.size o
theorem bl_set (h : Below w0.heap.size w0 c) {g : Nat} (hg : w0.heap.size ≤ g) (i : Nat) (u : Value) : Below w0.heap.size w0 (c.setCell ⟨g, i, none⟩ u) := h.setCell hg u
end
theorem Blk.new_at (c : World) (t : TypeId) (cs : Array Value) {g : Nat} (h : g = c.heap.size) : Blk (c.alloc (.cells cs t)) g t cs := by subst h; exact Blk.new _ _ _

theorem size_drew (w : World) : w.drew.heap.size = w.heap.size := rfl
theorem IntV.drewd {w : World} {v : Value} {z : Int} (h : IntV w v z) : IntV w.drew v z := h
theorem Dg.drewd {k : IntKind} {w : World} {a : Option Addr} {ds : List Nat} (h : Dg k w a ds) : Dg k w.drew a ds := h
theorem Dg.allocd {k : IntKind} {w : World} {a : Option Addr} {ds : List Nat} (h : Dg k w a ds) (o : Obj) : Dg k (w.alloc o) a ds := h.below ((Below.refl _ _).alloc (Nat.le_refl _) _) (Nat.le_refl _)
theorem IntV.allocd {w : World} {v : Value} {z : Int} (h : IntV w v z) (o : Obj) : IntV (w.alloc o) v z := h.below ((Below.refl _ _).alloc (Nat.le_refl _) _) (Nat.le_refl _)
theorem IntV.later {c w' : World} {v : Value} {z : Int} (hb : Below c.heap.size c w') (h : IntV c v z) : IntV w' v z := h.below hb (Nat.le_refl _)

/-- Two integers in boxes made by the call. -/
structure Two (w : World) (gs : List Nat) (L g5 g6 : Nat) (a b : Int) (c : World) : Prop where
  rs : Rs w gs c
  ne : g5 ≠ g6
  lo5 : L ≤ g5
  lo6 : L ≤ g6
  b5 : ∃ n s l k, Blk c g5 24 #[.bool n, .slice s l k] ∧ IntV c (.agg #[.bool n, .slice s l k]) a
  b6 : ∃ n s l k, Blk c g6 24 #[.bool n, .slice s l k] ∧ IntV c (.agg #[.bool n, .slice s l k]) b

theorem Two.of {w c : World} {gs : List Nat} {L g5 g6 : Nat} {a b : Int} {n n' m m' : Bool} {s s' t t' : Option Addr} {l l' k k' j j' i i' : Nat} (hR : Rs w gs c) (hne : g5 ≠ g6) (h5 : L ≤ g5) (h6 : L ≤ g6) (hL : w.heap.size ≤ L) (hgs : ∀ g ∈ gs, g < L) (k5 : Blk c g5 24 #[.bool m, .slice t j i]) (k6 : Blk c g6 24 #[.bool m', .slice t' j' i'])
    (ha : IntV c (.agg #[.bool n, .slice s l k]) a) (hb : IntV c (.agg #[.bool n', .slice s' l' k']) b) :
    Two w gs L g5 g6 a b ((((c.setCell ⟨g5, 0, none⟩ (.bool n)).setCell ⟨g5, 1, none⟩ (.slice s l k)).setCell ⟨g6, 0, none⟩ (.bool n')).setCell ⟨g6, 1, none⟩ (.slice s' l' k')) := by
  have n5 : g5 ∉ gs := fun h => by have := hgs _ h; omega
  have n6 : g6 ∉ gs := fun h => by have := hgs _ h; omega
  refine ⟨(((hR.far (by omega) n5 _ _).far (by omega) n5 _ _).far (by omega) n6 _ _).far (by omega) n6 _ _, hne, h5, h6, ⟨n, s, l, k, ?_, ?_⟩, ⟨n', s', l', k', ?_, ?_⟩⟩
  · exact ((k5.two _ _).far (by simpa using hne) _).far (by simpa using hne) _
  · exact (ha.store k5 _ _).store ((k6.far (by simpa using hne.symm) _).far (by simpa using hne.symm) _) _ _
  · exact ((k6.far (by simpa using hne.symm) _).far (by simpa using hne.symm) _).two _ _
  · exact (hb.store k5 _ _).store ((k6.far (by simpa using hne.symm) _).far (by simpa using hne.symm) _) _ _

theorem Two.drew {w c : World} {gs : List Nat} {L g5 g6 : Nat} {a b : Int} (h : Two w gs L g5 g6 a b c) : Two w gs L g5 g6 a b c.drew := by
  obtain ⟨h1, h2, h3, h4, ⟨n, s, l, k, h5, h5'⟩, ⟨n', s', l', k', h6, h6'⟩⟩ := h
  exact ⟨h1.drew, h2, h3, h4, ⟨n, s, l, k, h5.drew, h5'.drewd⟩, ⟨n', s', l', k', h6.drew, h6'.drewd⟩⟩

set_option maxRecDepth 100000 in
set_option maxHeartbeats 6400000 in
theorem Gcd_any {x y : Int} {u v : Value} (w : World) (hx : IntV w u x) (hy : IntV w v y) (hn : Sm x) (hm : Sm y) :
    Calls Tryd.prog 31 #[u, v] w (IntPost w (Nat.gcd x.natAbs y.natAbs : Nat)) := by
  generalize hP : IntPost w (Nat.gcd x.natAbs y.natAbs : Nat) = Post
  have HP := hide hP
  clear hP
  obtain ⟨a, ca, rfl, ha, hda⟩ := id hx
  obtain ⟨b, cb, rfl, hb, hdb⟩ := id hy
  have HX0 := hx
  have HY0 := hy
  clear hx hy
  have hX0 : Blk (((w.alloc (.cells #[.bool (decide (x < 0)), .slice a (dg BB x.natAbs).length ca] 24)).alloc (.cells #[.bool (decide (y < 0)), .slice b (dg BB y.natAbs).length cb] 24)).alloc (.cells #[.bool false, .slice none 0 0] 24)) w.heap.size 24 #[.bool (decide (x < 0)), .slice a (dg BB x.natAbs).length ca] := ((Blk.new w _ _).alloc _).alloc _
  have hY0 : Blk (((w.alloc (.cells #[.bool (decide (x < 0)), .slice a (dg BB x.natAbs).length ca] 24)).alloc (.cells #[.bool (decide (y < 0)), .slice b (dg BB y.natAbs).length cb] 24)).alloc (.cells #[.bool false, .slice none 0 0] 24)) (w.heap.size + 1) 24 #[.bool (decide (y < 0)), .slice b (dg BB y.natAbs).length cb] := by
    have h := Blk.new (w.alloc (.cells #[.bool (decide (x < 0)), .slice a (dg BB x.natAbs).length ca] 24)) 24 #[.bool (decide (y < 0)), .slice b (dg BB y.natAbs).length cb]
    rw [World.size_alloc] at h
    exact h.alloc _
  have hZ0 : Blk (((w.alloc (.cells #[.bool (decide (x < 0)), .slice a (dg BB x.natAbs).length ca] 24)).alloc (.cells #[.bool (decide (y < 0)), .slice b (dg BB y.natAbs).length cb] 24)).alloc (.cells #[.bool false, .slice none 0 0] 24)) (w.heap.size + 1 + 1) 24 #[.bool false, .slice none 0 0] := by
    have h := Blk.new ((w.alloc (.cells #[.bool (decide (x < 0)), .slice a (dg BB x.natAbs).length ca] 24)).alloc (.cells #[.bool (decide (y < 0)), .slice b (dg BB y.natAbs).length cb] 24)) 24 #[.bool false, .slice none 0 0]
    simp only [World.size_alloc] at h
    exact h
  have hR0 : Rs w [w.heap.size + 1 + 1] (((w.alloc (.cells #[.bool (decide (x < 0)), .slice a (dg BB x.natAbs).length ca] 24)).alloc (.cells #[.bool (decide (y < 0)), .slice b (dg BB y.natAbs).length cb] 24)).alloc (.cells #[.bool false, .slice none 0 0] 24)) := by
    refine ⟨(((Below.refl w.heap.size w).alloc (Nat.le_refl _) _).alloc (by simp) _).alloc (by simp; omega) _, ?_⟩
    intro g hg
    simp at hg
    subst hg
    · exact ⟨_, _, _, _, hZ0⟩
  go_enter Tryd.func31, Tryd.ntmps31
  go_upto_region 1 with (fail)
  generalize ((w.alloc (.cells #[.bool (decide (x < 0)), .slice a (dg BB x.natAbs).length ca] 24)).alloc (.cells #[.bool (decide (y < 0)), .slice b (dg BB y.natAbs).length cb] 24)).alloc (.cells #[.bool false, .slice none 0 0] 24) = W at hX0 hY0 hR0 hZ0 ⊢
  clear hZ0
  obtain ⟨c0, c1, cf⟩ := hX0.c2
  obtain ⟨d0, d1, df⟩ := hY0.c2
  have hR1 := hR0.drew
  have hwA : w.heap.size ≤ w.heap.size := Nat.le_refl _
  have hneA : w.heap.size ≠ w.heap.size + 1 := by omega
  have hwB : w.heap.size ≤ w.heap.size + 1 := by omega
  have hneB : w.heap.size + 1 ≠ w.heap.size := by omega
  have hgA : w.heap.size ∉ [w.heap.size + 1 + 1] := by simp only [List.mem_cons, List.mem_nil_iff, or_false]; omega
  have hgB : w.heap.size + 1 ∉ [w.heap.size + 1 + 1] := by simp only [List.mem_cons, List.mem_nil_iff, or_false]; omega
  have f20 := cf 0
  have f21 := cf 1
  have f30 := df 0
  have f31 := df 1
  have cxn := dg_canon BB2 x.natAbs
  have cyn := dg_canon BB2 y.natAbs
  have dxn : Digs BB (dg BB x.natAbs) := cxn.1
  have dyn : Digs BB (dg BB y.natAbs) := cyn.1
  have hsx : (dg BB x.natAbs).length ≤ 1099511627776 := hn
  have hsy : (dg BB y.natAbs).length ≤ 1099511627776 := hm
  have hvx := dg_val BB2 x.natAbs
  have hvy := dg_val BB2 y.natAbs
  have HX1 := hide hvx
  have HY1 := hide hvy
  clear hvx hvy
  generalize decide (x < 0) = nx at *
  generalize decide (y < 0) = ny at *
  generalize dg BB x.natAbs = dx at *
  generalize dg BB y.natAbs = dy at *
  go_region_held3 (fun w' => w'.cell? ⟨w.heap.size, 0, none⟩ = some (.bool nx) ∧ w'.cell? ⟨w.heap.size, 1, none⟩ = some (.slice a dx.length ca) ∧ w'.cell? ⟨w.heap.size + 1, 0, none⟩ = some (.bool ny) ∧ w'.cell? ⟨w.heap.size + 1, 1, none⟩ = some (.slice b dy.length cb) ∧ w'.frozen? ⟨w.heap.size, 0, none⟩ = false ∧ w'.frozen? ⟨w.heap.size, 1, none⟩ = false ∧ w'.frozen? ⟨w.heap.size + 1, 0, none⟩ = false ∧ w'.frozen? ⟨w.heap.size + 1, 1, none⟩ = false ∧ Rs w [w.heap.size + 1 + 1] w')
    (first | with_reducible exact keep2 (by assumption) hb1 | with_reducible exact keepA2 hwA hneA hgA (by assumption) | with_reducible exact keepB2 hwB hneB hgB (by assumption) | go_keep)
    (first
      | (go_at_call_of 63 (Value.agg #[.bool nx, .slice a dx.length ca]); (with_reducible refine (right_at HX0 hn (by go_split_ands; exact Rs.bel (by assumption))).mono ?_); rintro e w1 ⟨rfl, hb1⟩)
      | (go_at_call_of 63 (Value.agg #[.bool ny, .slice b dy.length cb]); (with_reducible refine (right_at HY0 hm (by go_split_ands; exact Rs.bel (by assumption))).mono ?_); rintro e w1 ⟨rfl, hb1⟩))
  rename_i hS
  generalize ((((w1.setCell _ _).setCell _ _).setCell _ _).setCell _ _) = W1 at hS ⊢
  clear c0 c1 cf d0 d1 df f20 f21 f30 f31 hb1 hX0 hY0 hR0 hR1
  obtain ⟨c0, c1, d0, d1, f20, f21, f30, f31, hR⟩ := hS
  have hda1 := hda.below hR.1 (Nat.le_refl _)
  have hdb1 := hdb.below hR.1 (Nat.le_refl _)
  have hg4 : w.heap.size + 1 + 1 ∈ [w.heap.size + 1 + 1] := by simp
  have hlt4 : w.heap.size + 1 + 1 < W1.heap.size := by
    obtain ⟨_, _, _, _, hk⟩ := hR.2 _ hg4
    exact hk.lt
  have hS1 : W1.cell? ⟨w.heap.size, 0, none⟩ = some (.bool nx) ∧ W1.cell? ⟨w.heap.size, 1, none⟩ = some (.slice a dx.length ca) ∧ W1.cell? ⟨w.heap.size + 1, 0, none⟩ = some (.bool ny) ∧ W1.cell? ⟨w.heap.size + 1, 1, none⟩ = some (.slice b dy.length cb) ∧ W1.frozen? ⟨w.heap.size, 0, none⟩ = false ∧ W1.frozen? ⟨w.heap.size, 1, none⟩ = false ∧ W1.frozen? ⟨w.heap.size + 1, 0, none⟩ = false ∧ W1.frozen? ⟨w.heap.size + 1, 1, none⟩ = false ∧ Rs w [w.heap.size + 1 + 1] W1 := ⟨c0, c1, d0, d1, f20, f21, f30, f31, hR⟩
  go_upto_region 2 with (fail)
  clear hda1 hdb1
  go_cut [5, 6] from 13 to 20 (fun v5 v6 wc => ∃ g5 g6, v5 = .pointer (some ⟨g5, 0, none⟩) ∧ v6 = .pointer (some ⟨g6, 0, none⟩) ∧ Two w [w.heap.size + 1 + 1] (w.heap.size + 1 + 1 + 1) g5 g6 (signZ false x.natAbs) (signZ false y.natAbs) wc)
  case first =>
    go_region_held3 (fun w' => w'.cell? ⟨w.heap.size, 0, none⟩ = some (.bool nx) ∧ w'.cell? ⟨w.heap.size, 1, none⟩ = some (.slice a dx.length ca) ∧ w'.cell? ⟨w.heap.size + 1, 0, none⟩ = some (.bool ny) ∧ w'.cell? ⟨w.heap.size + 1, 1, none⟩ = some (.slice b dy.length cb) ∧ w'.frozen? ⟨w.heap.size, 0, none⟩ = false ∧ w'.frozen? ⟨w.heap.size, 1, none⟩ = false ∧ w'.frozen? ⟨w.heap.size + 1, 0, none⟩ = false ∧ w'.frozen? ⟨w.heap.size + 1, 1, none⟩ = false ∧ Rs w [w.heap.size + 1 + 1] w')
      (exact keep2 hS1 (by repeat (first | with_reducible exact Below.refl _ _ | with_reducible refine bl_drew ?_ | with_reducible refine bl_alloc ?_ _ | with_reducible refine bl_set ?_ (by omega) _ _ | with_reducible refine bl_call ?_ (by with_reducible assumption))))
      (first
        | (go_at_call_of 72 (Value.slice a dx.length ca); (with_reducible refine (copied_at hda ha dxn hsx (by go_split_ands; exact Rs.bel (by assumption))).mono ?_); rintro e w1 ⟨ra, rc, rs, rfl, hrf, hrd, hrD, hrv, hrl, hb1⟩; have hs1 := hb1.size; (try simp only [World.size_drew] at hs1); (try simp only [World.size_alloc] at hs1); (first | with_reducible replace hA := Blk.later hb1 hA | with_reducible replace hA := Blk.later hb1 (Blk.alloc hA _) | with_reducible replace hA := Blk.later hb1 (Blk.alloc (Blk.alloc hA _) _) | skip); (first | with_reducible replace hB := Blk.later hb1 hB | with_reducible replace hB := Blk.later hb1 (Blk.alloc hB _) | with_reducible replace hB := Blk.later hb1 (Blk.alloc (Blk.alloc hB _) _) | skip); (first | (have _t := hA; first | (have hB := Blk.later hb1 (Blk.new _ _ _)) | skip) | (have hA := Blk.later hb1 (Blk.alloc (Blk.new _ _ _) _); have hB := Blk.later hb1 (Blk.new _ _ _)) | (have hA := Blk.later hb1 (Blk.drew (Blk.alloc (Blk.new _ _ _) _)); have hB := Blk.later hb1 (Blk.drew (Blk.new _ _ _))) | (have hA := Blk.later hb1 (Blk.new _ _ _)) | (have hA := Blk.later hb1 (Blk.drew (Blk.new _ _ _))) | skip); (try (try simp only [World.size_alloc] at hA); obtain ⟨khA0, khA1, khAf⟩ := hA.c2; have khA2 := khAf 0; have khA3 := khAf 1; have khAl := hA.lt; clear khAf); (try (try simp only [World.size_alloc] at hB); obtain ⟨khB0, khB1, khBf⟩ := hB.c2; have khB2 := khBf 0; have khB3 := khBf 1; have khBl := hB.lt; clear khBf))
        | (go_at_call_of 72 (Value.slice b dy.length cb); (with_reducible refine (copied_at hdb hb dyn hsy (by go_split_ands; exact Rs.bel (by assumption))).mono ?_); rintro e w1 ⟨ra', rc', rs', rfl, hrf', hrd', hrD', hrv', hrl', hb1⟩; have hs1 := hb1.size; (try simp only [World.size_drew] at hs1); (try simp only [World.size_alloc] at hs1); (first | with_reducible replace hA := Blk.later hb1 hA | with_reducible replace hA := Blk.later hb1 (Blk.alloc hA _) | with_reducible replace hA := Blk.later hb1 (Blk.alloc (Blk.alloc hA _) _) | skip); (first | with_reducible replace hB := Blk.later hb1 hB | with_reducible replace hB := Blk.later hb1 (Blk.alloc hB _) | with_reducible replace hB := Blk.later hb1 (Blk.alloc (Blk.alloc hB _) _) | skip); (first | (have _t := hA; first | (have hB := Blk.later hb1 (Blk.new _ _ _)) | skip) | (have hA := Blk.later hb1 (Blk.alloc (Blk.new _ _ _) _); have hB := Blk.later hb1 (Blk.new _ _ _)) | (have hA := Blk.later hb1 (Blk.drew (Blk.alloc (Blk.new _ _ _) _)); have hB := Blk.later hb1 (Blk.drew (Blk.new _ _ _))) | (have hA := Blk.later hb1 (Blk.new _ _ _)) | (have hA := Blk.later hb1 (Blk.drew (Blk.new _ _ _))) | skip); (try (try simp only [World.size_alloc] at hA); obtain ⟨khA0, khA1, khAf⟩ := hA.c2; have khA2 := khAf 0; have khA3 := khAf 1; have khAl := hA.lt; clear khAf); (try (try simp only [World.size_alloc] at hB); obtain ⟨khB0, khB1, khBf⟩ := hB.c2; have khB2 := khBf 0; have khB3 := khBf 1; have khBl := hB.lt; clear khBf))
        | (go_at_call_of 61 (Value.slice ra rs.length rc); (with_reducible refine (signed_any false ra rc rs _ (by repeat (first | assumption | refine Dg.allocd ?_ _)) hrD hrf.le (by omega)).mono ?_); rintro e w1 ⟨r, rfl, hrI, hb1⟩; rw [hrv, HX1.out] at hrI; obtain ⟨rn, rb, rl, rk, rfl⟩ := hrI.parts; have hs1 := hb1.size; (try simp only [World.size_drew] at hs1); (try simp only [World.size_alloc] at hs1); (first | with_reducible replace hA := Blk.later hb1 hA | with_reducible replace hA := Blk.later hb1 (Blk.alloc hA _) | with_reducible replace hA := Blk.later hb1 (Blk.alloc (Blk.alloc hA _) _) | skip); (first | with_reducible replace hB := Blk.later hb1 hB | with_reducible replace hB := Blk.later hb1 (Blk.alloc hB _) | with_reducible replace hB := Blk.later hb1 (Blk.alloc (Blk.alloc hB _) _) | skip); (first | (have _t := hA; first | (have hB := Blk.later hb1 (Blk.new _ _ _)) | skip) | (have hA := Blk.later hb1 (Blk.alloc (Blk.new _ _ _) _); have hB := Blk.later hb1 (Blk.new _ _ _)) | (have hA := Blk.later hb1 (Blk.drew (Blk.alloc (Blk.new _ _ _) _)); have hB := Blk.later hb1 (Blk.drew (Blk.new _ _ _))) | (have hA := Blk.later hb1 (Blk.new _ _ _)) | (have hA := Blk.later hb1 (Blk.drew (Blk.new _ _ _))) | skip); (try (try simp only [World.size_alloc] at hA); obtain ⟨khA0, khA1, khAf⟩ := hA.c2; have khA2 := khAf 0; have khA3 := khAf 1; have khAl := hA.lt; clear khAf); (try (try simp only [World.size_alloc] at hB); obtain ⟨khB0, khB1, khBf⟩ := hB.c2; have khB2 := khBf 0; have khB3 := khBf 1; have khBl := hB.lt; clear khBf))
        | (go_at_call_of 61 (Value.slice ra' rs'.length rc'); (with_reducible refine (signed_any false ra' rc' rs' _ (by repeat (first | assumption | refine Dg.allocd ?_ _)) hrD' hrf'.le (by omega)).mono ?_); rintro e w1 ⟨r', rfl, hrI', hb1⟩; rw [hrv', HY1.out] at hrI'; obtain ⟨rn', rb', rl', rk', rfl⟩ := hrI'.parts; have hs1 := hb1.size; (try simp only [World.size_drew] at hs1); (try simp only [World.size_alloc] at hs1); (first | with_reducible replace hA := Blk.later hb1 hA | with_reducible replace hA := Blk.later hb1 (Blk.alloc hA _) | with_reducible replace hA := Blk.later hb1 (Blk.alloc (Blk.alloc hA _) _) | skip); (first | with_reducible replace hB := Blk.later hb1 hB | with_reducible replace hB := Blk.later hb1 (Blk.alloc hB _) | with_reducible replace hB := Blk.later hb1 (Blk.alloc (Blk.alloc hB _) _) | skip); (first | (have _t := hA; first | (have hB := Blk.later hb1 (Blk.new _ _ _)) | skip) | (have hA := Blk.later hb1 (Blk.alloc (Blk.new _ _ _) _); have hB := Blk.later hb1 (Blk.new _ _ _)) | (have hA := Blk.later hb1 (Blk.drew (Blk.alloc (Blk.new _ _ _) _)); have hB := Blk.later hb1 (Blk.drew (Blk.new _ _ _))) | (have hA := Blk.later hb1 (Blk.new _ _ _)) | (have hA := Blk.later hb1 (Blk.drew (Blk.new _ _ _))) | skip); (try (try simp only [World.size_alloc] at hA); obtain ⟨khA0, khA1, khAf⟩ := hA.c2; have khA2 := khAf 0; have khA3 := khAf 1; have khAl := hA.lt; clear khAf); (try (try simp only [World.size_alloc] at hB); obtain ⟨khB0, khB1, khBf⟩ := hB.c2; have khB2 := khBf 0; have khB3 := khBf 1; have khBl := hB.lt; clear khBf)))
    all_goals
      go_wp2_with fail
      go_meet
      refine ⟨_, _, rfl, rfl, ?r1, ?r2, ?r3, ?r4, ⟨rn, rb, rl, rk, ?r5, ?r6⟩, ⟨rn', rb', rl', rk', ?r7, ?r8⟩⟩
      case r1 => exact hR.below (by repeat (first | with_reducible exact Below.refl _ _ | with_reducible refine bl_drew ?_ | with_reducible refine bl_alloc ?_ _ | with_reducible refine bl_set ?_ (by omega) _ _ | with_reducible refine bl_call ?_ (by with_reducible assumption)))
      case r2 => omega
      case r3 => omega
      case r4 => omega
      case r5 => repeat (first | with_reducible refine Blk.later (by with_reducible assumption) ?_ | with_reducible refine Blk.drew ?_ | with_reducible exact Blk.new _ _ _ | with_reducible exact Blk.new_at _ _ _ (World.size_alloc _ _).symm | with_reducible exact Blk.new_at _ _ _ ((World.size_setCell _ _ _).trans (World.size_setCell _ _ _)).symm | with_reducible refine Blk.alloc ?_ _ | with_reducible refine Blk.two (a := .bool false) (b := .slice none 0 0) ?_ _ _ | with_reducible refine Blk.far ?_ (by simp only [ne_eq]; omega) _)
      case r6 => ((repeat (first | with_reducible assumption | with_reducible refine IntV.drewd ?_ | with_reducible refine IntV.allocd ?_ _ | with_reducible refine IntV.store ?_ (n := false) (b := none) (l := 0) (m := 0) ?_ _ _ | with_reducible refine IntV.later (by with_reducible assumption) ?_)); all_goals repeat (first | with_reducible refine Blk.later (by with_reducible assumption) ?_ | with_reducible refine Blk.drew ?_ | with_reducible exact Blk.new _ _ _ | with_reducible exact Blk.new_at _ _ _ (World.size_alloc _ _).symm | with_reducible exact Blk.new_at _ _ _ ((World.size_setCell _ _ _).trans (World.size_setCell _ _ _)).symm | with_reducible refine Blk.alloc ?_ _ | with_reducible refine Blk.two (a := .bool false) (b := .slice none 0 0) ?_ _ _ | with_reducible refine Blk.far ?_ (by simp only [ne_eq]; omega) _))
      case r7 => repeat (first | with_reducible refine Blk.later (by with_reducible assumption) ?_ | with_reducible refine Blk.drew ?_ | with_reducible exact Blk.new _ _ _ | with_reducible exact Blk.new_at _ _ _ (World.size_alloc _ _).symm | with_reducible exact Blk.new_at _ _ _ ((World.size_setCell _ _ _).trans (World.size_setCell _ _ _)).symm | with_reducible refine Blk.alloc ?_ _ | with_reducible refine Blk.two (a := .bool false) (b := .slice none 0 0) ?_ _ _ | with_reducible refine Blk.far ?_ (by simp only [ne_eq]; omega) _)
      case r8 => ((repeat (first | with_reducible assumption | with_reducible refine IntV.drewd ?_ | with_reducible refine IntV.allocd ?_ _ | with_reducible refine IntV.store ?_ (n := false) (b := none) (l := 0) (m := 0) ?_ _ _ | with_reducible refine IntV.later (by with_reducible assumption) ?_)); all_goals repeat (first | with_reducible refine Blk.later (by with_reducible assumption) ?_ | with_reducible refine Blk.drew ?_ | with_reducible exact Blk.new _ _ _ | with_reducible exact Blk.new_at _ _ _ (World.size_alloc _ _).symm | with_reducible exact Blk.new_at _ _ _ ((World.size_setCell _ _ _).trans (World.size_setCell _ _ _)).symm | with_reducible refine Blk.alloc ?_ _ | with_reducible refine Blk.two (a := .bool false) (b := .slice none 0 0) ?_ _ _ | with_reducible refine Blk.far ?_ (by simp only [ne_eq]; omega) _))
  case rest =>
    obtain ⟨g5, g6, rfl, rfl, s0⟩ := hcut
    have e0 : ∀ n : Nat, signZ false n = (n : Int) := fun n => by simp [signZ]
    rw [e0, e0] at s0
    have hx0 : Sm ((x.natAbs : Nat) : Int) := by unfold Sm len at hn ⊢; rw [Int.natAbs_natCast]; exact hn
    have hy0 : Sm ((y.natAbs : Nat) : Int) := by unfold Sm len at hm ⊢; rw [Int.natAbs_natCast]; exact hm
    have HG := hide (show Nat.gcd x.natAbs y.natAbs = Nat.gcd x.natAbs y.natAbs from rfl)
    clear hS1 hR c0 c1 d0 d1 f20 f21 f30 f31 hlt4 hda hdb HX0 HY0 e0 hgA hgB hneA hneB hwA hwB HX1 HY1 cxn cyn dxn dyn hsx hsy ha hb hn hm
    generalize hGG : Nat.gcd x.natAbs y.natAbs = GG at HG HP
    have HGG := hide hGG
    clear hGG HG
    go_wp2_with fail
    go_loopg [] y.natAbs (fun r wr => ∃ A B : Nat, B = r ∧ Sm (A : Int) ∧ Sm (B : Int) ∧ Hid (Nat.gcd A B = GG) ∧ Two w [w.heap.size + 1 + 1] (w.heap.size + 1 + 1 + 1) g5 g6 (A : Int) (B : Int) wr)
    case atStart => exact ⟨_, _, rfl, hx0, hy0, HGG, s0⟩
    case round =>
      clear s0 hx0 hy0 HGG
      obtain ⟨A, B, hBr, hA, hB, HGG, s⟩ := hrel
      have HBR := hide hBr
      clear hBr
      obtain ⟨n5, s5, l5, k5, hb5, hi5⟩ := s.b5
      obtain ⟨n6, s6, l6, k6, hb6, hi6⟩ := s.b6
      have hne := s.ne
      have hl5 := s.lo5
      have hl6 := s.lo6
      have hR := s.rs
      clear s
      have hl : l6 = (dg BB B).length := by
        obtain ⟨a', c', e, -, -⟩ := hi6
        injection e with e
        rw [Int.natAbs_natCast] at e
        simp at e
        exact e.2.2.1
      have HL := hide hl
      obtain ⟨p0, p1, pf⟩ := hb5.c2
      obtain ⟨q0, q1, qf⟩ := hb6.c2
      have pf0 := pf 0
      have pf1 := pf 1
      have qf0 := qf 0
      have qf1 := qf 1
      rcases Nat.eq_zero_or_pos B with h0 | h0
      · obtain rfl : l6 = 0 := by rw [hl, h0]; rfl
        obtain ⟨_, _, _, _, k0, k1, kf0, kf1, hX4⟩ := Rs.at hR hg4 (Below.refl _ _)
        obtain ⟨e0, e1, -⟩ := (hX4.two (.bool n5) (.slice s5 l5 k5)).c2
        have hI := hi5.store hX4 (.bool n5) (.slice s5 l5 k5)
        have hBl := (hR.1.setCell (p := ⟨w.heap.size + 1 + 1, 0, none⟩) (by simp; omega) (.bool n5)).setCell (p := ⟨w.heap.size + 1 + 1, 1, none⟩) (by simp; omega) (.slice s5 l5 k5)
        have HZ := hide h0
        clear hl h0 hX4
        go_wp2_with fail
        refine bodyPost_ret (v := .agg #[.bool n5, .slice s5 l5 k5]) (by simp [results, Tryd.results31, go_sem, e0, e1]) rfl ?_
        rw [← HP.out, ← HGG.out, HZ.out, Nat.gcd_zero_right]
        exact ⟨_, rfl, hI, hBl⟩
      · have hlp : 0 < l6 := by
          rw [hl]
          rcases Nat.eq_zero_or_pos (dg BB B).length with h | h
          · have := (dg_eq_nil BB2).1 (List.length_eq_zero_iff.1 h); omega
          · exact h
        clear hl
        have hlpd : decide (0 < l6) = true := decide_eq_true hlp
        go_wp2_with fail
        refine (Div_any _ hi5 hi6 hA hB).mono ?_
        rintro e w2 ⟨qq, rr, rfl, hq, hr, hb2⟩
        obtain ⟨qn, qs, ql, qk, rfl⟩ := hq.parts
        obtain ⟨rn, rs, rl, rk, rfl⟩ := hr.parts
        have er : (if (B : Int) = 0 then (0 : Int) else (A : Int) % (B : Int)) = ((A % B : Nat) : Int) := by rw [if_neg (by omega), Int.natCast_emod]
        rw [er] at hr
        clear hq er
        have hsr : Sm ((A % B : Nat) : Int) := by
          unfold Sm len at hB ⊢
          rw [Int.natAbs_natCast] at hB ⊢
          exact Nat.le_trans (dg_len_mono BB2 (Nat.le_of_lt (Nat.mod_lt _ h0))) hB
        have hW3 := (((Below.refl _ w2).alloc (Nat.le_refl _) (.cells #[.bool qn, .slice qs ql qk] 24)).alloc (by simp) (.cells #[.bool rn, .slice rs rl rk] 24))
        have hB8 : Blk ((w2.alloc (.cells #[.bool qn, .slice qs ql qk] 24)).alloc (.cells #[.bool rn, .slice rs rl rk] 24)) (w2.heap.size + 1) 24 #[.bool rn, .slice rs rl rk] := Blk.new_at _ _ _ (World.size_alloc _ _).symm
        have hb53 := Blk.later hW3 (Blk.later hb2 hb5)
        have hb63 := Blk.later hW3 (Blk.later hb2 hb6)
        have hi63 := IntV.later hW3 (IntV.later hb2 hi6)
        have hr3 := IntV.later hW3 hr
        have hR3 := (hR.below hb2).below hW3
        have n58 : g5 ≠ w2.heap.size + 1 := by have := (Blk.later hb2 hb5).lt; omega
        have n68 : g6 ≠ w2.heap.size + 1 := by have := (Blk.later hb2 hb6).lt; omega
        have n85 := n58.symm
        have n86 := n68.symm
        clear p0 p1 pf pf0 pf1 q0 q1 qf qf0 qf1 hb5 hb6 hi5 hi6 hR hb2 hr hW3
        go_upto_region 5 with (fail)
        generalize (w2.alloc (.cells #[.bool qn, .slice qs ql qk] 24)).alloc (.cells #[.bool rn, .slice rs rl rk] 24) = W3 at hB8 hb53 hb63 hi63 hr3 hR3 ⊢
        generalize w2.heap.size + 1 = G8 at *
        obtain ⟨p0, p1, pf⟩ := hb53.c2
        obtain ⟨q0, q1, qf⟩ := hb63.c2
        obtain ⟨r0, r1, rf⟩ := hB8.c2
        have pf0 := pf 0
        have pf1 := pf 1
        have qf0 := qf 0
        have qf1 := qf 1
        have s2 := Two.of (L := w.heap.size + 1 + 1 + 1) hR3 hne hl5 hl6 (by omega) (fun g hg => by simp at hg; omega) hb53 hb63 hi63 hr3
        have hne' := hne.symm
        have HLT := hide (Nat.mod_lt A h0)
        clear pf qf rf hlp hlpd h0
        go_region
        all_goals
          go_wp2_with fail
          go_roundg (A % B)
          case measure => have h1 := HBR.out; have h2 := HLT.out; omega
          case rel => exact ⟨B, A % B, rfl, hB, hsr, hide (by rw [← HGG.out, Nat.gcd_comm B, ← Nat.gcd_rec, Nat.gcd_comm]), s2.drew⟩
end Go.Proofs.YthpibilefdmemaaDoor
