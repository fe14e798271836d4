/- Plain words on the row of distances that path.Far hands back. Conditions: none. -/
import Derived.Test.YtfbnecnhalnmeaaDoorPathFact
import Derived.Test.YtfbnecnhalnmeaaDoorWay
import Derived.Test.YtfbnecnhalnmeaaDoorLongP
import Derived.Deep.DeepCutAuto
import Derived.Deep.RegionHeld3
namespace Go.Proofs.YtfbnecnhalnmeaaDoor
open Go.RowKit
theorem far_cells {w : World} {base g N c e : Nat} {outs : List Fr} (h : w.ownsRow base e 1 (.slice (some ⟨g, 0, none⟩) N c) N (ints (outs.map (·.weight)))) (hl : outs.length = N) : ∀ i, i < N → w.cell? ⟨g, i, none⟩ = some (.int .i64 outs[i]!.weight) := fun i hi => by
  rw [h.cellAt i (by omega)]
  unfold ints
  rw [List.map_map, List.getElem?_map, gget outs (show i < outs.length by omega)]
  rfl
theorem outF_nat {outs : List Fr} {v : Nat} (hv : v < outs.length) (h : 0 ≤ outs[v]!.weight) : outF outs (v : Int) = some (outs[v]!.weight, outs[v]!.edges) := by
  unfold outF
  rw [Int.toNat_natCast, if_pos ⟨by omega, hv, h⟩]
theorem short_edge {N : Nat} {l : List Edge} {s : Int} {outs : List Fr} (h : Short (arcs false l) s N (outF outs)) (hl : outs.length = N) {a b : Nat} {t : Int} (he : (⟨a, b, t⟩ : Edge) ∈ l) (ha : a < N) (h0 : 0 ≤ outs[a]!.weight) :
    0 ≤ outs[b]!.weight ∧ outs[b]!.weight ≤ outs[a]!.weight + t := by
  obtain ⟨w', e', h1, h2⟩ := h.closed _ _ _ (outF_nat (by omega) h0) b t (List.mem_map.2 ⟨_, he, rfl⟩)
  have h3 := (h.sound _ _ _ h1).2.2.2.1
  have h4 := (outF_some h1).1
  unfold le2 at h2
  omega
theorem short_tight {N : Nat} {l : List Edge} {s : Nat} {outs : List Fr} (h : Short (arcs false l) (s : Int) N (outF outs)) (hl : outs.length = N) (hed : ∀ p ∈ l, (0 ≤ p.a ∧ p.a ≤ (N : Int) - 1) ∧ (0 ≤ p.b ∧ p.b ≤ (N : Int) - 1) ∧ (0 ≤ p.weight ∧ p.weight ≤ 1000)) {i : Nat} (hi : i < N) (h0 : 0 ≤ outs[i]!.weight) (hne : i ≠ s) :
    ∃ (a : Nat) (t : Int), (⟨a, i, t⟩ : Edge) ∈ l ∧ a < N ∧ 0 ≤ outs[a]!.weight ∧ outs[i]!.weight = outs[a]!.weight + t := by
  obtain ⟨u, w', e', c, hg, h1, h2, _⟩ := h.tight (outF_nat (by omega) h0) (by omega)
  obtain ⟨e, he, hq⟩ := List.mem_map.1 hg
  simp only [Bool.false_eq_true, if_false, Prod.mk.injEq] at hq
  obtain ⟨rfl, e2, rfl⟩ := hq
  have := hed e he
  obtain ⟨a, ha⟩ : ∃ a : Nat, e.a = a := ⟨e.a.toNat, by omega⟩
  rw [ha] at h1
  have h3 := (outF_some h1).1
  have h4 := (h.sound _ _ _ h1).2.2.2.1
  refine ⟨a, e.weight, ?_, by omega, by omega, by omega⟩
  rw [← ha, ← e2]; exact he
theorem Cells.front {w : World} {B : Nat} {A : Option Addr} {xs ys : List Value} (h : Cells w B A (xs ++ ys)) : Cells w B A xs := fun hp => by
  obtain ⟨b, off, e, hb, hc⟩ := h (by rw [List.length_append]; omega)
  exact ⟨b, off, e, hb, fun j u hu => hc j u (by rw [List.getElem?_append_left (by exact (List.getElem?_eq_some_iff.1 hu).1)]; exact hu)⟩
theorem own_cap {w : World} {base g n c e size : Nat} {xs : List Value} (h : w.ownsRow base e size (.slice (some ⟨g, 0, none⟩) n c) n xs) : n ≤ c := by
  rcases h.2 with ⟨e3, _⟩ | ⟨g', cap', cur, hv, hb, hg, hnc, hcm, hcs, htk⟩
  · simp at e3
  · simp only [Value.slice.injEq, Option.some.injEq, Addr.mk.injEq, and_true, true_and] at hv
    omega
/-- whatever it is asked, path.Far answers with a slice and an error -/
def FarAny (w : World) (e : Ending) (w' : World) : Prop := ∃ v1 v2, e = .returned (.tuple #[v1, v2]) ∧ Below w.heap.size w w'
theorem far_any (N : Int) (A : Option Addr) (n c : Nat) (l : List Edge) (s : Int) (w : World) (hA : Cells w w.heap.size A (edges l)) (hn : l.length = n) (hm : n ≤ 9223372036854775807) :
    Calls Tryd.prog 5 #[graphV N A n c, .int .i64 s] w (FarAny w) := by
  by_cases hp : pathErr N l [s] = 0
  · obtain ⟨hg, hsx⟩ := pathErr_ok hp
    have hs := hsx s (by simp)
    obtain ⟨⟨h0, h1⟩, _, _⟩ := graphErr_ok hg
    obtain ⟨N, rfl⟩ : ∃ M : Nat, N = M := ⟨N.toNat, by omega⟩
    obtain ⟨s, rfl⟩ : ∃ k : Nat, s = k := ⟨s.toNat, by omega⟩
    refine (far_ok N A n c l s w hA hn hm hg (by omega)).mono ?_
    rintro e w' ⟨g, c', outs, rfl, _, _, _, _, hb⟩
    exact ⟨_, _, rfl, hb⟩
  · refine (far_bad N A n c l s w hA hn hm hp).mono ?_
    rintro e w' ⟨rfl, hb⟩
    exact ⟨_, _, rfl, hb⟩
theorem far_none {N : Nat} {l : List Edge} {outs : List Fr} {a c : Nat} {D : Int → Option (Int × Int)} (h : Short (arcs false l) (a : Int) N (outF outs)) (h' : Short (arcs true l) (c : Int) N D) (hc : c < outs.length) (hw : outs[c]!.weight = -1 ∨ 0 ≤ outs[c]!.weight) (hn : D (a : Int) = none) : outs[c]!.weight = -1 := by
  rcases hw with hw | hw
  · exact hw
  · have h1 := short_both h h'
    rw [hn, outF_nat hc hw] at h1
    cases h1
theorem far_three {N : Nat} {l : List Edge} {o1 o2 : List Fr} {a b c : Nat} (h1 : Short (arcs false l) (a : Int) N (outF o1)) (h2 : Short (arcs false l) (b : Int) N (outF o2)) (hb : b < o1.length) (hc : c < o2.length) (p1 : 0 ≤ o1[b]!.weight) (p2 : 0 ≤ o2[c]!.weight) :
    0 ≤ o1[c]!.weight ∧ o1[c]!.weight ≤ o1[b]!.weight + o2[c]!.weight := by
  have r1 := (h1.sound _ _ _ (outF_nat hb p1)).1
  have r2 := (h2.sound _ _ _ (outF_nat hc p2)).1
  obtain ⟨w, e, h3, h4⟩ := h1.least (r1.trans r2)
  have h5 := (outF_some h3).1
  have h6 := (h1.sound _ _ _ h3).2.2.2.1
  unfold le2 at h4
  omega
end Go.Proofs.YtfbnecnhalnmeaaDoor
