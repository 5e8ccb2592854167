/- A law for drawn regions in two parts: a condition holds until the first part has come up. -/
import Derived.Test.YtphjffbldhhdiaaGreatDoorSxSet
import Derived.Deep.RegionHeld3
namespace Go.Proofs.YtphjffbldhhdiaaGreatDoor
open Go.RowKit
theorem keepZ1 {w c w1 : World} {g0 o0 : Nat} {v0 : Value} (h : c.cell? ⟨g0, o0, none⟩ = some v0 ∧ Below w.heap.size w c) (hb : Below c.heap.size c w1) : w1.cell? ⟨g0, o0, none⟩ = some v0 ∧ Below w.heap.size w w1 := by
  obtain ⟨h0, hk⟩ := h
  exact ⟨cellK hb h0, hk.trans (hb.mono hk.size)⟩
theorem keepZ3 {w c w1 : World} {g0 o0 g1 o1 g2 o2 : Nat} {v0 v1 v2 : Value} (h : c.cell? ⟨g0, o0, none⟩ = some v0 ∧ c.cell? ⟨g1, o1, none⟩ = some v1 ∧ c.cell? ⟨g2, o2, none⟩ = some v2 ∧ Below w.heap.size w c) (hb : Below c.heap.size c w1) : w1.cell? ⟨g0, o0, none⟩ = some v0 ∧ w1.cell? ⟨g1, o1, none⟩ = some v1 ∧ w1.cell? ⟨g2, o2, none⟩ = some v2 ∧ Below w.heap.size w w1 := by
  obtain ⟨h0, h1, h2, hk⟩ := h
  exact ⟨cellK hb h0, cellK hb h1, cellK hb h2, hk.trans (hb.mono hk.size)⟩
theorem keepZ5 {w c w1 : World} {g0 o0 g1 o1 g2 o2 g3 o3 g4 o4 : Nat} {v0 v1 v2 v3 v4 : Value} (h : c.cell? ⟨g0, o0, none⟩ = some v0 ∧ c.cell? ⟨g1, o1, none⟩ = some v1 ∧ c.cell? ⟨g2, o2, none⟩ = some v2 ∧ c.cell? ⟨g3, o3, none⟩ = some v3 ∧ c.cell? ⟨g4, o4, none⟩ = some v4 ∧ Below w.heap.size w c) (hb : Below c.heap.size c w1) : w1.cell? ⟨g0, o0, none⟩ = some v0 ∧ w1.cell? ⟨g1, o1, none⟩ = some v1 ∧ w1.cell? ⟨g2, o2, none⟩ = some v2 ∧ w1.cell? ⟨g3, o3, none⟩ = some v3 ∧ w1.cell? ⟨g4, o4, none⟩ = some v4 ∧ Below w.heap.size w w1 := by
  obtain ⟨h0, h1, h2, h3, h4, hk⟩ := h
  exact ⟨cellK hb h0, cellK hb h1, cellK hb h2, cellK hb h3, cellK hb h4, hk.trans (hb.mono hk.size)⟩
theorem keepZ6 {w c w1 : World} {g0 o0 g1 o1 g2 o2 g3 o3 g4 o4 g5 o5 : Nat} {v0 v1 v2 v3 v4 v5 : Value} (h : c.cell? ⟨g0, o0, none⟩ = some v0 ∧ c.cell? ⟨g1, o1, none⟩ = some v1 ∧ c.cell? ⟨g2, o2, none⟩ = some v2 ∧ c.cell? ⟨g3, o3, none⟩ = some v3 ∧ c.cell? ⟨g4, o4, none⟩ = some v4 ∧ c.cell? ⟨g5, o5, none⟩ = some v5 ∧ Below w.heap.size w c) (hb : Below c.heap.size c w1) : w1.cell? ⟨g0, o0, none⟩ = some v0 ∧ w1.cell? ⟨g1, o1, none⟩ = some v1 ∧ w1.cell? ⟨g2, o2, none⟩ = some v2 ∧ w1.cell? ⟨g3, o3, none⟩ = some v3 ∧ w1.cell? ⟨g4, o4, none⟩ = some v4 ∧ w1.cell? ⟨g5, o5, none⟩ = some v5 ∧ Below w.heap.size w w1 := by
  obtain ⟨h0, h1, h2, h3, h4, h5, hk⟩ := h
  exact ⟨cellK hb h0, cellK hb h1, cellK hb h2, cellK hb h3, cellK hb h4, cellK hb h5, hk.trans (hb.mono hk.size)⟩
theorem keepZ7 {w c w1 : World} {g0 o0 g1 o1 g2 o2 g3 o3 g4 o4 g5 o5 g6 o6 : Nat} {v0 v1 v2 v3 v4 v5 v6 : Value} (h : c.cell? ⟨g0, o0, none⟩ = some v0 ∧ c.cell? ⟨g1, o1, none⟩ = some v1 ∧ c.cell? ⟨g2, o2, none⟩ = some v2 ∧ c.cell? ⟨g3, o3, none⟩ = some v3 ∧ c.cell? ⟨g4, o4, none⟩ = some v4 ∧ c.cell? ⟨g5, o5, none⟩ = some v5 ∧ c.cell? ⟨g6, o6, none⟩ = some v6 ∧ Below w.heap.size w c) (hb : Below c.heap.size c w1) : w1.cell? ⟨g0, o0, none⟩ = some v0 ∧ w1.cell? ⟨g1, o1, none⟩ = some v1 ∧ w1.cell? ⟨g2, o2, none⟩ = some v2 ∧ w1.cell? ⟨g3, o3, none⟩ = some v3 ∧ w1.cell? ⟨g4, o4, none⟩ = some v4 ∧ w1.cell? ⟨g5, o5, none⟩ = some v5 ∧ w1.cell? ⟨g6, o6, none⟩ = some v6 ∧ Below w.heap.size w w1 := by
  obtain ⟨h0, h1, h2, h3, h4, h5, h6, hk⟩ := h
  exact ⟨cellK hb h0, cellK hb h1, cellK hb h2, cellK hb h3, cellK hb h4, cellK hb h5, cellK hb h6, hk.trans (hb.mono hk.size)⟩
theorem keepZ9 {w c w1 : World} {g0 o0 g1 o1 g2 o2 g3 o3 g4 o4 g5 o5 g6 o6 g7 o7 g8 o8 : Nat} {v0 v1 v2 v3 v4 v5 v6 v7 v8 : Value} (h : c.cell? ⟨g0, o0, none⟩ = some v0 ∧ c.cell? ⟨g1, o1, none⟩ = some v1 ∧ c.cell? ⟨g2, o2, none⟩ = some v2 ∧ c.cell? ⟨g3, o3, none⟩ = some v3 ∧ c.cell? ⟨g4, o4, none⟩ = some v4 ∧ c.cell? ⟨g5, o5, none⟩ = some v5 ∧ c.cell? ⟨g6, o6, none⟩ = some v6 ∧ c.cell? ⟨g7, o7, none⟩ = some v7 ∧ c.cell? ⟨g8, o8, none⟩ = some v8 ∧ Below w.heap.size w c) (hb : Below c.heap.size c w1) : w1.cell? ⟨g0, o0, none⟩ = some v0 ∧ w1.cell? ⟨g1, o1, none⟩ = some v1 ∧ w1.cell? ⟨g2, o2, none⟩ = some v2 ∧ w1.cell? ⟨g3, o3, none⟩ = some v3 ∧ w1.cell? ⟨g4, o4, none⟩ = some v4 ∧ w1.cell? ⟨g5, o5, none⟩ = some v5 ∧ w1.cell? ⟨g6, o6, none⟩ = some v6 ∧ w1.cell? ⟨g7, o7, none⟩ = some v7 ∧ w1.cell? ⟨g8, o8, none⟩ = some v8 ∧ Below w.heap.size w w1 := by
  obtain ⟨h0, h1, h2, h3, h4, h5, h6, h7, h8, hk⟩ := h
  exact ⟨cellK hb h0, cellK hb h1, cellK hb h2, cellK hb h3, cellK hb h4, cellK hb h5, cellK hb h6, cellK hb h7, cellK hb h8, hk.trans (hb.mono hk.size)⟩
theorem keepZ10 {w c w1 : World} {g0 o0 g1 o1 g2 o2 g3 o3 g4 o4 g5 o5 g6 o6 g7 o7 g8 o8 g9 o9 : Nat} {v0 v1 v2 v3 v4 v5 v6 v7 v8 v9 : Value} (h : c.cell? ⟨g0, o0, none⟩ = some v0 ∧ c.cell? ⟨g1, o1, none⟩ = some v1 ∧ c.cell? ⟨g2, o2, none⟩ = some v2 ∧ c.cell? ⟨g3, o3, none⟩ = some v3 ∧ c.cell? ⟨g4, o4, none⟩ = some v4 ∧ c.cell? ⟨g5, o5, none⟩ = some v5 ∧ c.cell? ⟨g6, o6, none⟩ = some v6 ∧ c.cell? ⟨g7, o7, none⟩ = some v7 ∧ c.cell? ⟨g8, o8, none⟩ = some v8 ∧ c.cell? ⟨g9, o9, none⟩ = some v9 ∧ Below w.heap.size w c) (hb : Below c.heap.size c w1) : w1.cell? ⟨g0, o0, none⟩ = some v0 ∧ w1.cell? ⟨g1, o1, none⟩ = some v1 ∧ w1.cell? ⟨g2, o2, none⟩ = some v2 ∧ w1.cell? ⟨g3, o3, none⟩ = some v3 ∧ w1.cell? ⟨g4, o4, none⟩ = some v4 ∧ w1.cell? ⟨g5, o5, none⟩ = some v5 ∧ w1.cell? ⟨g6, o6, none⟩ = some v6 ∧ w1.cell? ⟨g7, o7, none⟩ = some v7 ∧ w1.cell? ⟨g8, o8, none⟩ = some v8 ∧ w1.cell? ⟨g9, o9, none⟩ = some v9 ∧ Below w.heap.size w w1 := by
  obtain ⟨h0, h1, h2, h3, h4, h5, h6, h7, h8, h9, hk⟩ := h
  exact ⟨cellK hb h0, cellK hb h1, cellK hb h2, cellK hb h3, cellK hb h4, cellK hb h5, cellK hb h6, cellK hb h7, cellK hb h8, cellK hb h9, hk.trans (hb.mono hk.size)⟩
theorem keepZ11 {w c w1 : World} {g0 o0 g1 o1 g2 o2 g3 o3 g4 o4 g5 o5 g6 o6 g7 o7 g8 o8 g9 o9 g10 o10 : Nat} {v0 v1 v2 v3 v4 v5 v6 v7 v8 v9 v10 : Value} (h : c.cell? ⟨g0, o0, none⟩ = some v0 ∧ c.cell? ⟨g1, o1, none⟩ = some v1 ∧ c.cell? ⟨g2, o2, none⟩ = some v2 ∧ c.cell? ⟨g3, o3, none⟩ = some v3 ∧ c.cell? ⟨g4, o4, none⟩ = some v4 ∧ c.cell? ⟨g5, o5, none⟩ = some v5 ∧ c.cell? ⟨g6, o6, none⟩ = some v6 ∧ c.cell? ⟨g7, o7, none⟩ = some v7 ∧ c.cell? ⟨g8, o8, none⟩ = some v8 ∧ c.cell? ⟨g9, o9, none⟩ = some v9 ∧ c.cell? ⟨g10, o10, none⟩ = some v10 ∧ Below w.heap.size w c) (hb : Below c.heap.size c w1) : w1.cell? ⟨g0, o0, none⟩ = some v0 ∧ w1.cell? ⟨g1, o1, none⟩ = some v1 ∧ w1.cell? ⟨g2, o2, none⟩ = some v2 ∧ w1.cell? ⟨g3, o3, none⟩ = some v3 ∧ w1.cell? ⟨g4, o4, none⟩ = some v4 ∧ w1.cell? ⟨g5, o5, none⟩ = some v5 ∧ w1.cell? ⟨g6, o6, none⟩ = some v6 ∧ w1.cell? ⟨g7, o7, none⟩ = some v7 ∧ w1.cell? ⟨g8, o8, none⟩ = some v8 ∧ w1.cell? ⟨g9, o9, none⟩ = some v9 ∧ w1.cell? ⟨g10, o10, none⟩ = some v10 ∧ Below w.heap.size w w1 := by
  obtain ⟨h0, h1, h2, h3, h4, h5, h6, h7, h8, h9, h10, hk⟩ := h
  exact ⟨cellK hb h0, cellK hb h1, cellK hb h2, cellK hb h3, cellK hb h4, cellK hb h5, cellK hb h6, cellK hb h7, cellK hb h8, cellK hb h9, cellK hb h10, hk.trans (hb.mono hk.size)⟩
theorem keepZ13 {w c w1 : World} {g0 o0 g1 o1 g2 o2 g3 o3 g4 o4 g5 o5 g6 o6 g7 o7 g8 o8 g9 o9 g10 o10 g11 o11 g12 o12 : Nat} {v0 v1 v2 v3 v4 v5 v6 v7 v8 v9 v10 v11 v12 : Value} (h : c.cell? ⟨g0, o0, none⟩ = some v0 ∧ c.cell? ⟨g1, o1, none⟩ = some v1 ∧ c.cell? ⟨g2, o2, none⟩ = some v2 ∧ c.cell? ⟨g3, o3, none⟩ = some v3 ∧ c.cell? ⟨g4, o4, none⟩ = some v4 ∧ c.cell? ⟨g5, o5, none⟩ = some v5 ∧ c.cell? ⟨g6, o6, none⟩ = some v6 ∧ c.cell? ⟨g7, o7, none⟩ = some v7 ∧ c.cell? ⟨g8, o8, none⟩ = some v8 ∧ c.cell? ⟨g9, o9, none⟩ = some v9 ∧ c.cell? ⟨g10, o10, none⟩ = some v10 ∧ c.cell? ⟨g11, o11, none⟩ = some v11 ∧ c.cell? ⟨g12, o12, none⟩ = some v12 ∧ Below w.heap.size w c) (hb : Below c.heap.size c w1) : w1.cell? ⟨g0, o0, none⟩ = some v0 ∧ w1.cell? ⟨g1, o1, none⟩ = some v1 ∧ w1.cell? ⟨g2, o2, none⟩ = some v2 ∧ w1.cell? ⟨g3, o3, none⟩ = some v3 ∧ w1.cell? ⟨g4, o4, none⟩ = some v4 ∧ w1.cell? ⟨g5, o5, none⟩ = some v5 ∧ w1.cell? ⟨g6, o6, none⟩ = some v6 ∧ w1.cell? ⟨g7, o7, none⟩ = some v7 ∧ w1.cell? ⟨g8, o8, none⟩ = some v8 ∧ w1.cell? ⟨g9, o9, none⟩ = some v9 ∧ w1.cell? ⟨g10, o10, none⟩ = some v10 ∧ w1.cell? ⟨g11, o11, none⟩ = some v11 ∧ w1.cell? ⟨g12, o12, none⟩ = some v12 ∧ Below w.heap.size w w1 := by
  obtain ⟨h0, h1, h2, h3, h4, h5, h6, h7, h8, h9, h10, h11, h12, hk⟩ := h
  exact ⟨cellK hb h0, cellK hb h1, cellK hb h2, cellK hb h3, cellK hb h4, cellK hb h5, cellK hb h6, cellK hb h7, cellK hb h8, cellK hb h9, cellK hb h10, cellK hb h11, cellK hb h12, hk.trans (hb.mono hk.size)⟩
theorem keepZ14 {w c w1 : World} {g0 o0 g1 o1 g2 o2 g3 o3 g4 o4 g5 o5 g6 o6 g7 o7 g8 o8 g9 o9 g10 o10 g11 o11 g12 o12 g13 o13 : Nat} {v0 v1 v2 v3 v4 v5 v6 v7 v8 v9 v10 v11 v12 v13 : Value} (h : c.cell? ⟨g0, o0, none⟩ = some v0 ∧ c.cell? ⟨g1, o1, none⟩ = some v1 ∧ c.cell? ⟨g2, o2, none⟩ = some v2 ∧ c.cell? ⟨g3, o3, none⟩ = some v3 ∧ c.cell? ⟨g4, o4, none⟩ = some v4 ∧ c.cell? ⟨g5, o5, none⟩ = some v5 ∧ c.cell? ⟨g6, o6, none⟩ = some v6 ∧ c.cell? ⟨g7, o7, none⟩ = some v7 ∧ c.cell? ⟨g8, o8, none⟩ = some v8 ∧ c.cell? ⟨g9, o9, none⟩ = some v9 ∧ c.cell? ⟨g10, o10, none⟩ = some v10 ∧ c.cell? ⟨g11, o11, none⟩ = some v11 ∧ c.cell? ⟨g12, o12, none⟩ = some v12 ∧ c.cell? ⟨g13, o13, none⟩ = some v13 ∧ Below w.heap.size w c) (hb : Below c.heap.size c w1) : w1.cell? ⟨g0, o0, none⟩ = some v0 ∧ w1.cell? ⟨g1, o1, none⟩ = some v1 ∧ w1.cell? ⟨g2, o2, none⟩ = some v2 ∧ w1.cell? ⟨g3, o3, none⟩ = some v3 ∧ w1.cell? ⟨g4, o4, none⟩ = some v4 ∧ w1.cell? ⟨g5, o5, none⟩ = some v5 ∧ w1.cell? ⟨g6, o6, none⟩ = some v6 ∧ w1.cell? ⟨g7, o7, none⟩ = some v7 ∧ w1.cell? ⟨g8, o8, none⟩ = some v8 ∧ w1.cell? ⟨g9, o9, none⟩ = some v9 ∧ w1.cell? ⟨g10, o10, none⟩ = some v10 ∧ w1.cell? ⟨g11, o11, none⟩ = some v11 ∧ w1.cell? ⟨g12, o12, none⟩ = some v12 ∧ w1.cell? ⟨g13, o13, none⟩ = some v13 ∧ Below w.heap.size w w1 := by
  obtain ⟨h0, h1, h2, h3, h4, h5, h6, h7, h8, h9, h10, h11, h12, h13, hk⟩ := h
  exact ⟨cellK hb h0, cellK hb h1, cellK hb h2, cellK hb h3, cellK hb h4, cellK hb h5, cellK hb h6, cellK hb h7, cellK hb h8, cellK hb h9, cellK hb h10, cellK hb h11, cellK hb h12, cellK hb h13, hk.trans (hb.mono hk.size)⟩
theorem keepZ15 {w c w1 : World} {g0 o0 g1 o1 g2 o2 g3 o3 g4 o4 g5 o5 g6 o6 g7 o7 g8 o8 g9 o9 g10 o10 g11 o11 g12 o12 g13 o13 g14 o14 : Nat} {v0 v1 v2 v3 v4 v5 v6 v7 v8 v9 v10 v11 v12 v13 v14 : Value} (h : c.cell? ⟨g0, o0, none⟩ = some v0 ∧ c.cell? ⟨g1, o1, none⟩ = some v1 ∧ c.cell? ⟨g2, o2, none⟩ = some v2 ∧ c.cell? ⟨g3, o3, none⟩ = some v3 ∧ c.cell? ⟨g4, o4, none⟩ = some v4 ∧ c.cell? ⟨g5, o5, none⟩ = some v5 ∧ c.cell? ⟨g6, o6, none⟩ = some v6 ∧ c.cell? ⟨g7, o7, none⟩ = some v7 ∧ c.cell? ⟨g8, o8, none⟩ = some v8 ∧ c.cell? ⟨g9, o9, none⟩ = some v9 ∧ c.cell? ⟨g10, o10, none⟩ = some v10 ∧ c.cell? ⟨g11, o11, none⟩ = some v11 ∧ c.cell? ⟨g12, o12, none⟩ = some v12 ∧ c.cell? ⟨g13, o13, none⟩ = some v13 ∧ c.cell? ⟨g14, o14, none⟩ = some v14 ∧ Below w.heap.size w c) (hb : Below c.heap.size c w1) : w1.cell? ⟨g0, o0, none⟩ = some v0 ∧ w1.cell? ⟨g1, o1, none⟩ = some v1 ∧ w1.cell? ⟨g2, o2, none⟩ = some v2 ∧ w1.cell? ⟨g3, o3, none⟩ = some v3 ∧ w1.cell? ⟨g4, o4, none⟩ = some v4 ∧ w1.cell? ⟨g5, o5, none⟩ = some v5 ∧ w1.cell? ⟨g6, o6, none⟩ = some v6 ∧ w1.cell? ⟨g7, o7, none⟩ = some v7 ∧ w1.cell? ⟨g8, o8, none⟩ = some v8 ∧ w1.cell? ⟨g9, o9, none⟩ = some v9 ∧ w1.cell? ⟨g10, o10, none⟩ = some v10 ∧ w1.cell? ⟨g11, o11, none⟩ = some v11 ∧ w1.cell? ⟨g12, o12, none⟩ = some v12 ∧ w1.cell? ⟨g13, o13, none⟩ = some v13 ∧ w1.cell? ⟨g14, o14, none⟩ = some v14 ∧ Below w.heap.size w w1 := by
  obtain ⟨h0, h1, h2, h3, h4, h5, h6, h7, h8, h9, h10, h11, h12, h13, h14, hk⟩ := h
  exact ⟨cellK hb h0, cellK hb h1, cellK hb h2, cellK hb h3, cellK hb h4, cellK hb h5, cellK hb h6, cellK hb h7, cellK hb h8, cellK hb h9, cellK hb h10, cellK hb h11, cellK hb h12, cellK hb h13, cellK hb h14, hk.trans (hb.mono hk.size)⟩
theorem keepZ16 {w c w1 : World} {g0 o0 g1 o1 g2 o2 g3 o3 g4 o4 g5 o5 g6 o6 g7 o7 g8 o8 g9 o9 g10 o10 g11 o11 g12 o12 g13 o13 g14 o14 g15 o15 : Nat} {v0 v1 v2 v3 v4 v5 v6 v7 v8 v9 v10 v11 v12 v13 v14 v15 : Value} (h : c.cell? ⟨g0, o0, none⟩ = some v0 ∧ c.cell? ⟨g1, o1, none⟩ = some v1 ∧ c.cell? ⟨g2, o2, none⟩ = some v2 ∧ c.cell? ⟨g3, o3, none⟩ = some v3 ∧ c.cell? ⟨g4, o4, none⟩ = some v4 ∧ c.cell? ⟨g5, o5, none⟩ = some v5 ∧ c.cell? ⟨g6, o6, none⟩ = some v6 ∧ c.cell? ⟨g7, o7, none⟩ = some v7 ∧ c.cell? ⟨g8, o8, none⟩ = some v8 ∧ c.cell? ⟨g9, o9, none⟩ = some v9 ∧ c.cell? ⟨g10, o10, none⟩ = some v10 ∧ c.cell? ⟨g11, o11, none⟩ = some v11 ∧ c.cell? ⟨g12, o12, none⟩ = some v12 ∧ c.cell? ⟨g13, o13, none⟩ = some v13 ∧ c.cell? ⟨g14, o14, none⟩ = some v14 ∧ c.cell? ⟨g15, o15, none⟩ = some v15 ∧ Below w.heap.size w c) (hb : Below c.heap.size c w1) : w1.cell? ⟨g0, o0, none⟩ = some v0 ∧ w1.cell? ⟨g1, o1, none⟩ = some v1 ∧ w1.cell? ⟨g2, o2, none⟩ = some v2 ∧ w1.cell? ⟨g3, o3, none⟩ = some v3 ∧ w1.cell? ⟨g4, o4, none⟩ = some v4 ∧ w1.cell? ⟨g5, o5, none⟩ = some v5 ∧ w1.cell? ⟨g6, o6, none⟩ = some v6 ∧ w1.cell? ⟨g7, o7, none⟩ = some v7 ∧ w1.cell? ⟨g8, o8, none⟩ = some v8 ∧ w1.cell? ⟨g9, o9, none⟩ = some v9 ∧ w1.cell? ⟨g10, o10, none⟩ = some v10 ∧ w1.cell? ⟨g11, o11, none⟩ = some v11 ∧ w1.cell? ⟨g12, o12, none⟩ = some v12 ∧ w1.cell? ⟨g13, o13, none⟩ = some v13 ∧ w1.cell? ⟨g14, o14, none⟩ = some v14 ∧ w1.cell? ⟨g15, o15, none⟩ = some v15 ∧ Below w.heap.size w w1 := by
  obtain ⟨h0, h1, h2, h3, h4, h5, h6, h7, h8, h9, h10, h11, h12, h13, h14, h15, hk⟩ := h
  exact ⟨cellK hb h0, cellK hb h1, cellK hb h2, cellK hb h3, cellK hb h4, cellK hb h5, cellK hb h6, cellK hb h7, cellK hb h8, cellK hb h9, cellK hb h10, cellK hb h11, cellK hb h12, cellK hb h13, cellK hb h14, cellK hb h15, hk.trans (hb.mono hk.size)⟩
/-- One fraction of a row is stored. -/
theorem rows_put {w : World} {G m D : Nat} {F : Nat → Rat} {q : Rat} {n n' : Bool} {a b : Option Addr} {l k i j : Nat} (h : ∀ i, i < m → FAt w G (i * 4) (F i)) (hD : D < m) (hq : FracV w (.agg #[.bool n, .slice a l k, .bool n', .slice b i j]) q) :
    ∀ i', i' < m → FAt (put4 w G (D * 4) (.bool n) (.slice a l k) (.bool n') (.slice b i j)) G (i' * 4) (put F D q i') := by
  intro i' hi
  by_cases he : i' = D
  · subst he
    rw [put_at]
    exact FAt.put4_at hq (h i' hi)
  · rw [put_else _ _ he]
    exact (h i' hi).put4 (h D hD) (.inr (by omega))
section
variable {P : Program} {ops : Array Oper} {Q : Exit → Act → World → Prop} {md : Region.Mode} {S : World → Prop} {F : Nat → Bool}

/-- Has all of the first part come up? -/
def fullF (F : Nat → Bool) (ops : Array Oper) (listed : Array Bool) : Bool := (List.range ops.size).all fun i => !F i || listed.getD i true
/-- Whatever order is picked: while the first part has not come up, S holds behind every operation; then anything goes. -/
def Till (P : Program) (md : Region.Mode) (ops : Array Oper) (Q : Exit → Act → World → Prop) (S : World → Prop) (F : Nat → Bool) : Nat → Array Bool → Act → World → Prop
  | 0, listed, a, w => wpAny P md ops Q 0 listed a w
  | fuel + 1, listed, a, w =>
    if fullF F ops listed = true then wpAny P md ops Q (fuel + 1) listed a w
    else (Region.ready md ops listed = [] → Q .normal a w) ∧ ∀ i ∈ Region.ready md ops listed, wpOp P ops Q i (fun a' w' => S w' ∧ Till P md ops Q S F fuel (listed.setIfInBounds i true) a' w') a w
theorem wpAny_of_till : ∀ (fuel : Nat) (listed : Array Bool) (a : Act) (w : World), Till P md ops Q S F fuel listed a w → wpAny P md ops Q fuel listed a w
  | 0, _, _, _, h => h
  | fuel + 1, listed, a, w, h => by
    unfold Till at h
    split at h
    · exact h
    · exact ⟨h.1, fun i hi => wpOp_mono (fun a' w' h' => wpAny_of_till fuel _ a' w' h'.2) (h.2 i hi)⟩
theorem till_of_any {fuel : Nat} {listed : Array Bool} {a : Act} {w : World} (hf : fullF F ops listed = true) (h : wpAny P md ops Q fuel listed a w) : Till P md ops Q S F fuel listed a w := by
  cases fuel with
  | zero => exact h
  | succ n => unfold Till; rw [if_pos hf]; exact h

theorem full_not {listed : Array Bool} {i : Nat} (hi : i < ops.size) (hF : F i = true) (h : listed.getD i true = false) : ¬ fullF F ops listed = true := by
  intro hf
  unfold fullF at hf
  have := List.all_eq_true.1 hf i (List.mem_range.2 hi)
  rw [hF, h] at this
  cases this

/-- The rest waits for the first part. -/
def waitsF (md : Region.Mode) (F : Nat → Bool) (ops : Array Oper) : Bool :=
  (List.range ops.size).all fun j => F j || (List.range ops.size).all fun i => !F i || ((ops[j]?).map fun o => o.after.any fun e => Region.binds md e && e.on == i).getD false
theorem waits_spec (h : waitsF md F ops = true) {listed : Array Bool} {i j : Nat} (hj : j ∈ Region.ready md ops listed) (hi : i < ops.size) (hF : F i = true) (hl : listed.getD i true = false) : F j = true := by
  obtain ⟨hjun, oj, hoj, hall⟩ := mem_ready.1 hj
  have hjs : j < ops.size := (Array.getElem?_eq_some_iff.1 hoj).1
  have h1 := List.all_eq_true.1 h j (List.mem_range.2 hjs)
  rw [Bool.or_eq_true] at h1
  rcases h1 with h1 | h1
  · exact h1
  · have h2 := List.all_eq_true.1 h1 i (List.mem_range.2 hi)
    rw [hF, hoj] at h2
    simp only [Bool.not_true, Bool.false_or, Option.map_some, Option.getD_some] at h2
    rw [Array.any_eq_true'] at h2
    obtain ⟨e, he, h3⟩ := h2
    rw [Bool.and_eq_true] at h3
    have h4 := hall e he h3.1
    rw [eq_of_beq h3.2] at h4
    rcases Nat.lt_or_ge i listed.size with h' | h'
    · simp [h'] at hl h4; rw [hl] at h4; cases h4
    · simp [Array.getElem?_eq_none h'] at h4

theorem Till_first {i : Nat} {oi : Oper} {v : Value} (hi : ops[i]? = some oi) (hsel : ∀ (j : Nat) (o : Oper) cs b, ops[j]? = some o → o.op ≠ .select cs b)
    (hQ : ∀ c a w, Q (.panic c) (a.put oi.dst v) w → Q (.panic c) a w) (hFi : F i = true) (hw : waitsF md F ops = true) :
    ∀ (fuel : Nat) (listed : Array Bool) (a : Act) (w : World),
      (∀ j oj, ops[j]? = some oj → j ≠ i → listed.getD j true = false → (∀ e ∈ oj.after, Region.binds md e = true → e.on ≠ i) → oi.apart ops oj = true) →
      i ∈ Region.ready md ops listed → YieldsIf P ops S oi v a → S w →
      Till P md ops Q S F fuel (listed.setIfInBounds i true) (a.put oi.dst v) w → Till P md ops Q S F (fuel + 1) listed a w := by
  have his : i < ops.size := (Array.getElem?_eq_some_iff.1 hi).1
  intro fuel
  induction fuel with
  | zero =>
    intro listed a w _ hr hy hS H
    unfold Till
    rw [if_neg (full_not his hFi (mem_ready.1 hr).1)]
    refine ⟨fun h => (by rw [h] at hr; cases hr), fun j hj => ?_⟩
    by_cases hji : j = i
    · subst hji; exact hy.wpOp hi hS ⟨hS, H⟩
    · have := ready_mono hj hji
      rw [H.1] at this
      cases this
  | succ fuel ih =>
    intro listed a w hfree hr hy hS H
    unfold Till
    rw [if_neg (full_not his hFi (mem_ready.1 hr).1)]
    refine ⟨fun h => (by rw [h] at hr; cases hr), fun j hj => ?_⟩
    by_cases hji : j = i
    · subst hji; exact hy.wpOp hi hS ⟨hS, H⟩
    · have hFj := waits_spec hw hj his hFi (mem_ready.1 hr).1
      have hjr := ready_mono hj hji
      have hjs : j < ops.size := by
        obtain ⟨_, oj, hoj, _⟩ := mem_ready.1 hj
        exact (Array.getElem?_eq_some_iff.1 hoj).1
      unfold Till at H
      rw [if_neg (full_not hjs hFj (mem_ready.1 hjr).1)] at H
      have h1 := H.2 j hjr
      obtain ⟨hjun, oj, hoj, hall⟩ := mem_ready.1 hj
      have hnot : ∀ e ∈ oj.after, Region.binds md e = true → e.on ≠ i := fun e he hb heq => by
        have h1 := hall e he hb
        have h0 := (mem_ready.1 hr).1
        rw [heq] at h1
        rcases Nat.lt_or_ge i listed.size with h' | h'
        · simp [h'] at h0 h1; rw [h0] at h1; cases h1
        · simp [Array.getElem?_eq_none h'] at h1
      have h2 := wpOp_putIf hoj (hfree j oj hoj hji hjun hnot) (fun cs b => hsel i oi cs b hi) (fun cs b => hsel j oj cs b hoj) hQ hy h1
      have hfree' : ∀ k ok, ops[k]? = some ok → k ≠ i → (listed.setIfInBounds j true).getD k true = false →
          (∀ e ∈ ok.after, Region.binds md e = true → e.on ≠ i) → oi.apart ops ok = true := fun k ok hk hki hun hno => by
        refine hfree k ok hk hki ?_ hno
        by_cases hjk : j = k
        · subst hjk; exact hjun
        · rw [getD_set_ne true hjk] at hun; exact hun
      refine wpOp_mono (fun a' w' h3 => ⟨h3.2.1, ih (listed.setIfInBounds j true) a' w' hfree' (ready_mono hr (Ne.symm hji)) h3.1 h3.2.1 ?_⟩) h2
      rw [Array.setIfInBounds_comm _ _ hji]
      exact h3.2.2
theorem Till_take {i : Nat} {oi : Oper} {v : Value} {fuel : Nat} {listed : Array Bool} {a : Act} {w : World} (hi : ops[i]? = some oi)
    (hs : Region.noSelect ops = true) (hf : Region.free md ops listed i = true) (hr : (Region.ready md ops listed).contains i = true)
    (hQ : ∀ c a w, Q (.panic c) (a.put oi.dst v) w → Q (.panic c) a w) (hFi : F i = true) (hw : waitsF md F ops = true) (hy : YieldsIf P ops S oi v a) (hS : S w)
    (h : Till P md ops Q S F fuel (listed.setIfInBounds i true) (a.put oi.dst v) w) : Till P md ops Q S F (fuel + 1) listed a w :=
  Till_first hi (Region.noSelect_spec hs) hQ hFi hw fuel listed a w (Region.free_spec hi hf) (by simpa using hr) hy hS h
/-- Each of the operations 'rs' comes up next. -/
def AllReadyT (P : Program) (md : Region.Mode) (ops : Array Oper) (Q : Exit → Act → World → Prop) (S : World → Prop) (F : Nat → Bool) (fuel : Nat) (listed : Array Bool) (a : Act) (w : World) (rs : List Nat) : Prop :=
  ∀ i ∈ rs, wpOp P ops Q i (fun a' w' => S w' ∧ Till P md ops Q S F fuel (listed.setIfInBounds i true) a' w') a w
theorem AllReadyT.nil {fuel : Nat} {listed : Array Bool} {a : Act} {w : World} : AllReadyT P md ops Q S F fuel listed a w [] := fun _ h => by cases h
theorem AllReadyT.cons {fuel : Nat} {listed : Array Bool} {a : Act} {w : World} {i : Nat} {o : Oper} {rs : List Nat} (ho : ops[i]? = some o)
    (h : ∀ K' : Act → World → Prop, Shut (∀ a w, S w → (S w → Till P md ops Q S F fuel (listed.setIfInBounds i true) a w) → K' a w) → if Region.wanted o (yielded ops a.tmps) = true then Oper.wp P o a w K' Q else K' (a.put o.dst undef) w)
    (hs : AllReadyT P md ops Q S F fuel listed a w rs) : AllReadyT P md ops Q S F fuel listed a w (i :: rs) := fun j hj => by
  rcases List.mem_cons.1 hj with rfl | hj
  · exact wpOp_step ho (fun K' hK => h K' (fun a w hS hW => hK a w ⟨hS, hW hS⟩))
  · exact hs j hj
theorem Till_ready {rs : List Nat} {fuel : Nat} {listed : Array Bool} {a : Act} {w : World} (hn : fullF F ops listed = false) (hr : Region.ready md ops listed = rs) (hne : rs ≠ [])
    (h : AllReadyT P md ops Q S F fuel listed a w rs) : Till P md ops Q S F (fuel + 1) listed a w := by
  unfold Till
  rw [if_neg (by rw [hn]; simp)]
  exact ⟨fun h0 => absurd (hr ▸ h0) hne, hr ▸ h⟩
/-- The first part has come up; the rest goes under no condition. -/
theorem Till_turn {fuel : Nat} {listed : Array Bool} {a : Act} {w : World} (hf : fullF F ops listed = true) (h : wpAnyH P md ops Q (fun _ => True) fuel listed a w) : Till P md ops Q S F fuel listed a w :=
  till_of_any hf (wpAny_of_held _ _ _ _ h)
/-- The beginning. -/
theorem wp_region_till {id : Nat} {a : Act} {w : World} (F : Nat → Bool) (hm : P.follows .mixedOrders = true) (hS : S w.drew)
    (h : S w.drew → Till P .any ops Q S F ops.size (Array.replicate ops.size false) a w.drew) : (Code.region id ops true).wp P Q a w :=
  wp_region_any hm (wpAny_of_till _ _ _ _ (h hS))
end
end Go.Proofs.YtphjffbldhhdiaaGreatDoor
