/-
  From an argument's reading to what a walk is told of it.
-/
import Derived.Test.YmbrbjBase
import Derived.ProofKit
import Derived.Deep.SlicePairs
import Derived.Deep.Grids
namespace Go.Proofs.Ymbrbj
open Go.ChangeShapes Go.WideShapes Go.ChangeAt Go.RowKit Go.Deep

theorem sl_of_trod {H : Type} {enc : TypeId × Value → H} {P : Program} {w : World} {t e : TypeId} {f0 f1 : Field} {k : IntKind} {fuel : Nat} {v : Value} {x : DataW H × List MemPlace}
    (ht : P.underlying t = some (.slice e)) (he : P.underlying e = some (.struct #[f0, f1])) (ce : P.cellsOf e = 2) (o0 : f0.offset = 0) (o1 : f1.offset = 1) (c0 : P.cellsOf f0.type = 1) (c1 : P.cellsOf f1.type = 1)
    (u0 : P.underlying f0.type = some (.int k)) (u1 : P.underlying f1.type = some (.int k)) (a : Option Addr) (n c : Nat) (hv : v = .slice a n c)
    (h : DataW.trod enc P w 0 (fun _ => true) true fuel t v.cells.toList = some x) : ∃ L, Sl k w v L ∧ RL k L := by
  subst hv
  have h' : DataW.trod enc P w 0 (fun _ => true) true fuel t [.slice a n c] = some x := by simpa [Value.cells] using h
  rcases open_slice_pairs ht he ce o0 o1 c0 c1 h' with ⟨hcs, _⟩ | ⟨ad, len, cap, m, q, V0, V1, D0, D1, P0, P1, hcs, _, hl, hm, hmm, _, hx⟩
  · simp at hcs
    obtain ⟨rfl, rfl, rfl⟩ := hcs
    exact ⟨[], ⟨none, 0, rfl, Nat.le_refl _, by omega, fun h => absurd h (by simp)⟩, fun p hp => by simp at hp⟩
  · simp at hcs
    obtain ⟨rfl, rfl, rfl⟩ := hcs
    simp only [if_true] at hmm
    subst hmm
    have each : ∀ i, i < m → ∃ z : Int × Int, V0 i = .int k z.1 ∧ V1 i = .int k z.2 ∧ (Lit.int k z.1).wf = true ∧ (Lit.int k z.2).wf = true := by
      intro i hi
      obtain ⟨_, _, h3, h4⟩ := hx i hi
      obtain ⟨z0, e0, _, g0⟩ := DataW.trod_int u0 h3
      obtain ⟨z1, e1, _, g1⟩ := DataW.trod_int u1 h4
      exact ⟨(z0, z1), by simpa using e0, by simpa using e1, g0, g1⟩
    obtain ⟨Z, hZ⟩ := choose_lt each
    refine ⟨(List.range n).map Z, ?_, ?_⟩
    · refine ⟨some ad, m, by simp, by simpa using hl, by simpa [maxLen] using hm, fun h0 => ?_⟩
      simp at h0
      have hsp : ad.spot = none := by simpa [Addr.add] using World.cell?_spot (hx 0 (by omega)).1
      obtain ⟨b, off, sp⟩ := ad
      simp at hsp
      subst hsp
      refine ⟨b, off, rfl, ?_, fun i hi => ?_⟩
      · have := (hx 0 (by omega)).1
        rw [add_plain] at this
        exact block_lt_of_cell this
      · simp at hi
        obtain ⟨h1, h2, _, _⟩ := hx i (by omega)
        obtain ⟨g1, g2, _, _⟩ := hZ i (by omega)
        rw [add_plain] at h1 h2
        simp only [loA, hiA]
        have e3 : ((List.range n).map Z).getD i (0, 0) = Z i := by simp [List.getD, hi]
        rw [e3, h1, g1, ← Nat.add_assoc] at *
        exact ⟨rfl, by rw [h2, g2]⟩
    · intro p hp
      simp at hp
      obtain ⟨i, hi, rfl⟩ := hp
      exact (hZ i (by omega)).2.2

theorem sl1_of_trod {H : Type} {enc : TypeId × Value → H} {P : Program} {w : World} {t e : TypeId} {k : IntKind} {fuel : Nat} {v : Value} {x : DataW H × List MemPlace}
    (ht : P.underlying t = some (.slice e)) (he : P.underlying e = some (.int k)) (ce : P.cellsOf e = 1) (a : Option Addr) (n c : Nat) (hv : v = .slice a n c)
    (h : DataW.trod enc P w 0 (fun _ => true) true fuel t v.cells.toList = some x) : ∃ L : List Int, Sl1 w v (L.map (Value.int k)) ∧ ∀ n ∈ L, (Lit.int k n).wf = true := by
  subst hv
  have h' : DataW.trod enc P w 0 (fun _ => true) true fuel t [.slice a n c] = some x := by simpa [Value.cells] using h
  rcases open_ints ht he ce h' with ⟨hcs, _⟩ | ⟨ad, l, cp, zs, hcs, _, hl, hm, hz, _, hcell, hwz⟩
  · simp at hcs
    obtain ⟨rfl, rfl, rfl⟩ := hcs
    exact ⟨[], ⟨none, 0, rfl, Nat.le_refl _, by omega, fun h => absurd h (by simp)⟩, fun p hp => by simp at hp⟩
  · simp at hcs
    obtain ⟨rfl, rfl, rfl⟩ := hcs
    simp only [if_true] at hz
    refine ⟨zs.take n, ?_, fun p hp => hwz p (List.mem_of_mem_take hp)⟩
    refine ⟨some ad, c, by simp; omega, by simp; omega, by simpa [maxLen] using hm, fun h0 => ?_⟩
    simp at h0
    have hsp : ad.spot = none := by simpa [Addr.add] using World.cell?_spot (hcell 0 (by omega))
    obtain ⟨b, off, sp⟩ := ad
    simp at hsp
    subst hsp
    refine ⟨b, off, rfl, ?_, fun i hi => ?_⟩
    · have := hcell 0 (by omega)
      rw [add_plain] at this
      exact block_lt_of_cell this
    · simp at hi
      have h1 := hcell i (by omega)
      rw [add_plain] at h1
      rw [h1]
      have : i < zs.length := by omega
      simp [List.getD, hi, this]

theorem slb_of_trod {H : Type} {enc : TypeId × Value → H} {P : Program} {w : World} {t e : TypeId} {fuel : Nat} {v : Value} {x : DataW H × List MemPlace}
    (ht : P.underlying t = some (.slice e)) (he : P.underlying e = some .bool) (ce : P.cellsOf e = 1) (a : Option Addr) (n c : Nat) (hv : v = .slice a n c)
    (h : DataW.trod enc P w 0 (fun _ => true) true fuel t v.cells.toList = some x) : ∃ L : List Bool, Sl1 w v (L.map Value.bool) := by
  subst hv
  have h' : DataW.trod enc P w 0 (fun _ => true) true fuel t [.slice a n c] = some x := by simpa [Value.cells] using h
  rcases open_bools ht he ce h' with ⟨hcs, _⟩ | ⟨ad, l, cp, B, hcs, _, hl, hm, _, hcell⟩
  · simp at hcs
    obtain ⟨rfl, rfl, rfl⟩ := hcs
    exact ⟨[], ⟨none, 0, rfl, Nat.le_refl _, by omega, fun h => absurd h (by simp)⟩⟩
  · simp at hcs
    obtain ⟨rfl, rfl, rfl⟩ := hcs
    refine ⟨(List.range n).map B, ?_⟩
    refine ⟨some ad, c, by simp, by simp; omega, by simpa [maxLen] using hm, fun h0 => ?_⟩
    simp at h0
    have hsp : ad.spot = none := by simpa [Addr.add] using World.cell?_spot (hcell 0 (by omega))
    obtain ⟨b, off, sp⟩ := ad
    simp at hsp
    subst hsp
    refine ⟨b, off, rfl, ?_, fun i hi => ?_⟩
    · have := hcell 0 (by omega)
      rw [add_plain] at this
      exact block_lt_of_cell this
    · simp at hi
      have h1 := hcell i (by omega)
      rw [add_plain] at h1
      rw [h1]
      simp [List.getD, hi]

end Go.Proofs.Ymbrbj
