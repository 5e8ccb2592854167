/- slices.Clone of fractions: by its contract. -/
import Derived.Test.YtphjffbldhhdiaaGreatDoorSxLayM
import Derived.WalkSpells
namespace Go.Proofs.YtphjffbldhhdiaaGreatDoor
open Go.RowKit

/-- What Clone leaves. -/
def ClonePost (w : World) (n : Nat) (a : Option Addr) (e : Ending) (w' : World) : Prop :=
  Below w.heap.size w w' ∧ ∃ a' k', e = .returned (.slice a' n k') ∧ (0 < n → ∃ g b o t cs, a = some ⟨b, o, none⟩ ∧ a' = some ⟨g, 0, none⟩ ∧ w.heap.size ≤ g ∧ Blk w' g t cs ∧ ∀ i, i < n * 4 → cs[i]? = w.cell? ⟨b, o + i, none⟩)

set_option maxRecDepth 100000 in
set_option maxHeartbeats 1600000 in
theorem clone_any {n cap : Nat} {a : Option Addr} (w : World) (hf : Fit a n cap) (hn : n ≤ 1000) (hc : 0 < n → ∃ b o, a = some ⟨b, o, none⟩ ∧ ∀ i, i < n * 4 → ∃ u, w.cell? ⟨b, o + i, none⟩ = some u ∧ u.oneCell' = true) :
    Calls Tryz.prog 51 #[.slice a n cap] w (ClonePost w n a) := by
  generalize hP : ClonePost w n a = Post
  have HP := hide hP
  clear hP
  have heq := fun (a : Option Addr) (n c : Nat) => Lib.run_eql_slice_nil (P := Tryz.prog) w 25 39 a n c 0 0 Tryz.underlying25
  cases a with
  | none =>
    obtain ⟨h1, h2⟩ := hf
    obtain rfl : cap = 0 := h2 rfl
    obtain rfl : n = 0 := by omega
    clear hc h1 h2
    go_enter Tryz.func51, Tryz.ntmps51
    go_wp2_with fail
    rw [← HP.out]
    exact ⟨Below.refl _ _, none, 0, rfl, fun h => absurd h (Nat.lt_irrefl _)⟩
  | some ad =>
    have HF := hide hf
    have HC := hide hc
    clear hf hc
    obtain ⟨i0, hi0, hz0, hz1, hz2⟩ := info_parts infoF
    obtain ⟨news, hnl, hnw⟩ : ∃ news : List Value, news.length = n * 4 ∧ ∀ j u, news[j]? = some u → w.cell? (ad.add j) = some u ∧ u.oneCell' = true := by
      rcases Nat.eq_zero_or_pos n with h0 | h0
      · exact ⟨[], by simp [h0], fun j u h => by simp at h⟩
      · obtain ⟨b, o, e, hu⟩ := HC.out h0
        obtain rfl := Option.some.inj e
        obtain ⟨l, hl, hl2⟩ := exists_list (p := fun i u => w.cell? ⟨b, o + i, none⟩ = some u ∧ u.oneCell' = true) (n * 4) hu
        refine ⟨l, hl, fun j u hj => ?_⟩
        have hlt : j < l.length := (List.getElem?_eq_some_iff.1 hj).1
        rw [List.getElem?_eq_getElem hlt] at hj
        obtain rfl := Option.some.inj hj
        rw [add_plain]
        exact hl2 j hlt
    go_enter Tryz.func51, Tryz.ntmps51
    go_upto_region 3 with (fail)
    go_wp2_with (at_builtin; refine wpList_append_own_at _ rfl (.tmp 5) (.tmp 6) 25 rfl w.heap.size 39 i0 zeroF 4 64 Tryz.underlying25 hi0 hz0 hz1 hz2 rfl (by decide) (.slice (some ⟨w.heap.size, 0, none⟩) 0 0) 0 [] rfl ?c1 ad n cap news rfl hnl ?c2 ?c3 ?c4 ?c5 ?c6 ?_)
    case c1 => exact World.ownsRow_made w #[] 0 (Nat.le_refl _) (by unfold maxLen; omega) rfl
    case c2 =>
      intro j u h
      obtain ⟨h1, _⟩ := hnw j u h
      exact cellB h1 ((Below.refl w.heap.size w).alloc (Nat.le_refl _) _) (Nat.le_refl _)
    case c3 =>
      intro u hu
      obtain ⟨j, hj, rfl⟩ := List.mem_iff_getElem.1 hu
      exact (hnw j _ (List.getElem?_eq_getElem hj)).2
    case c4 => unfold maxLen; omega
    case c5 => omega
    case c6 => simp
    intro v' w1 hown hgrow _ hat
    obtain ⟨a', k', rfl⟩ := own_slice hown
    have hB : Below w.heap.size w w1 := ((Below.refl w.heap.size w).alloc (Nat.le_refl _) _).grown hgrow (by simp) (fun k hk => by obtain rfl := Option.some.inj hk; exact Nat.le_refl _)
    have HO := hide hown
    clear hown hgrow hat
    go_wp2_with fail
    rw [← HP.out]
    refine ⟨hB, a', k', rfl, fun h0 => ?_⟩
    obtain ⟨g, cs, e, hg, hblk, hcs⟩ := own_cells HO.out h0
    obtain ⟨b, o, e2, _⟩ := HC.out h0
    obtain rfl := Option.some.inj e2
    refine ⟨g, b, o, _, cs, rfl, e, hg, hblk, fun i hi => ?_⟩
    have hi' : i < news.length := by omega
    rw [hcs i hi, List.getElem?_eq_getElem hi']
    have := (hnw i _ (List.getElem?_eq_getElem hi')).1
    rw [add_plain] at this
    exact this.symm
end Go.Proofs.YtphjffbldhhdiaaGreatDoor
