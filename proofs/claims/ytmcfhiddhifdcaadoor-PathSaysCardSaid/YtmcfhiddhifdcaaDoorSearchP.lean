/- Plain words of path.search: what its row tells; the arcs of a graph. Conditions: none. -/
import Derived.Test.YtmcfhiddhifdcaaDoorHeapFarN
import Derived.Test.YtmcfhiddhifdcaaDoorSpanCheck
namespace Go.Proofs.YtmcfhiddhifdcaaDoor
open Go.RowKit
theorem threes_set0 {α : Type} (f : α → Int × Int × Int) : ∀ (l : List α) (k : Nat) (x y : α), l[k]? = some y → (f x).2 = (f y).2 → (threes f l).set (k * 3) (.int .i64 (f x).1) = threes f (l.set k x) := by
  intro l
  induction l with
  | nil => intro k x y h; simp at h
  | cons q l ih =>
    intro k x y h e
    cases k with
    | zero => simp at h; subst h; simp [threes, e]
    | succ k =>
      have := ih k x y (by simpa using h) e
      rw [show (k + 1) * 3 = k * 3 + 1 + 1 + 1 by omega]
      simpa [threes] using this
/-- so far as the first k are told: none is come to -/
def farFill (N k : Nat) : List Fr := (List.range N).map fun i => if i < k then ⟨-1, 0, 0⟩ else ⟨0, 0, 0⟩
theorem farFill_len (N k : Nat) : (farFill N k).length = N := by simp [farFill]
theorem farFill_at {N k i : Nat} (h : i < N) : (farFill N k)[i]? = some (if i < k then ⟨-1, 0, 0⟩ else ⟨0, 0, 0⟩) := by simp [farFill, h]
theorem farFill_set {N k : Nat} (h : k < N) : (frRow (farFill N k)).set (k * 3) (.int .i64 (-1)) = frRow (farFill N (k + 1)) := by
  have e := threes_set0 (fun x : Fr => (x.weight, x.edges, x.node)) (farFill N k) k ⟨-1, 0, 0⟩ ⟨0, 0, 0⟩ (by rw [farFill_at h, if_neg (by omega)]) rfl
  unfold frRow
  rw [e]
  congr 1
  apply List.ext_getElem
  · simp [farFill]
  · intro i h1 h2
    simp only [farFill, List.getElem_set, List.getElem_map, List.getElem_range]
    by_cases hi : k = i
    · subst hi; simp
    · rw [if_neg hi]
      by_cases hk : i < k
      · rw [if_pos hk, if_pos (by omega)]
      · rw [if_neg hk, if_neg (by omega)]
theorem farFill_zero (N : Nat) : (madeCells #[.int .i64 0, .int .i64 0, .int .i64 0] (N * 3)).toList = frRow (farFill N 0) := by
  apply List.ext_getElem
  · rw [fr_len, farFill_len]; simp [madeCells]
  · intro i h1 h2
    have hi : i < N * 3 := by simpa [madeCells] using h1
    obtain ⟨q, r, hr, rfl⟩ : ∃ q r, r < 3 ∧ i = q * 3 + r := ⟨i / 3, i % 3, by omega, by omega⟩
    have hg := fr_get (farFill_at (N := N) (k := 0) (i := q) (by omega))
    rw [if_neg (by omega)] at hg
    have e : (frRow (farFill N 0))[q * 3 + r]? = some (.int .i64 0) := by
      rcases (show r = 0 ∨ r = 1 ∨ r = 2 by omega) with rfl | rfl | rfl
      · exact hg.1
      · exact hg.2.1
      · exact hg.2.2
    rw [List.getElem?_eq_getElem h2] at e
    injection e with e
    rw [e]
    simp only [madeCells, Array.toList_map, Array.toList_range, List.getElem_map, List.getElem_range]
    have : (q * 3 + r) % (#[Value.int .i64 0, .int .i64 0, .int .i64 0] : Array Value).size = r := by
      show (q * 3 + r) % 3 = r
      omega
    rw [this]
    rcases (show r = 0 ∨ r = 1 ∨ r = 2 by omega) with rfl | rfl | rfl <;> rfl
/-- what a row of ways tells of a node -/
def outF (outs : List Fr) (v : Int) : Option (Int × Int) := if 0 ≤ v ∧ v.toNat < outs.length ∧ 0 ≤ outs[v.toNat]!.weight then some (outs[v.toNat]!.weight, outs[v.toNat]!.edges) else none
theorem gfill {N i : Nat} (h : i < N) : (farFill N N)[i]! = ⟨-1, 0, 0⟩ := by
  rw [List.getElem!_eq_getElem?_getD, farFill_at h, if_pos h]; rfl
theorem outF_none (N : Nat) : outF (farFill N N) = fun _ => none := by
  funext v
  unfold outF
  rw [if_neg]
  rintro ⟨h0, h1, h2⟩
  rw [farFill_len] at h1
  rw [gfill h1] at h2
  exact absurd h2 (by decide)
theorem outF_set {outs : List Fr} {x : Fr} (h0 : 0 ≤ x.node) (h1 : x.node.toNat < outs.length) (h2 : 0 ≤ x.weight) : outF (outs.set x.node.toNat x) = settle (outF outs) x := by
  funext v
  unfold outF settle
  rw [List.length_set, gset _ _ _ _ h1]
  by_cases e : v = x.node
  · subst e
    rw [if_pos rfl, if_pos ⟨h0, h1, h2⟩, if_pos rfl]
  · rw [if_neg e]
    by_cases hv : 0 ≤ v
    · rw [if_neg (show ¬ v.toNat = x.node.toNat by omega)]
    · rw [if_neg (by omega)]
      show none = if _ then _ else _
      rw [if_neg (by omega)]
/-- the arcs of edges, along them or against them -/
def arcs (ag : Bool) (l : List Edge) : List Arc := l.map fun e => if ag then (e.b, e.a, e.weight) else (e.a, e.b, e.weight)
theorem arcs_ok {N : Nat} {l : List Edge} (ag : Bool) (h : ∀ p ∈ l, (0 ≤ p.a ∧ p.a ≤ (N : Int) - 1) ∧ (0 ≤ p.b ∧ p.b ≤ (N : Int) - 1) ∧ (0 ≤ p.weight ∧ p.weight ≤ 1000)) : Arcs N (arcs ag l) := by
  intro u v c hm
  obtain ⟨e, he, hq⟩ := List.mem_map.1 hm
  have := h e he
  cases ag with
  | true =>
    simp only [if_true, Prod.mk.injEq] at hq
    obtain ⟨rfl, rfl, rfl⟩ := hq
    omega
  | false =>
    simp only [Bool.false_eq_true, if_false, Prod.mk.injEq] at hq
    obtain ⟨rfl, rfl, rfl⟩ := hq
    omega
theorem pushes_snoc (G : List Arc) (x : Fr) (a : Arc) : pushes (G ++ [a]) x = pushes G x ++ (if a.1 = x.node then [⟨x.weight + a.2.2, x.edges + 1, a.2.1⟩] else []) := by
  unfold pushes
  rw [List.filter_append, List.map_append]
  congr 1
  by_cases h : a.1 = x.node
  · rw [if_pos h]; simp [h]
  · rw [if_neg h]; simp [h]
theorem arcs_take (ag : Bool) (l : List Edge) {k : Nat} {e : Edge} (h : l[k]? = some e) : arcs ag (l.take (k + 1)) = arcs ag (l.take k) ++ [if ag then (e.b, e.a, e.weight) else (e.a, e.b, e.weight)] := by
  unfold arcs
  rw [take_at h, List.map_append]; rfl
theorem pushes_len (G : List Arc) (x : Fr) : (pushes G x).length ≤ G.length := by
  unfold pushes
  rw [List.length_map]
  exact List.length_filter_le _ _
theorem frBl_new {p g b : Nat} {V : Option Addr} {W : World} (h : b ∉ frBl p V) (hb : b < W.heap.size) (hg : g ∈ frBl p V ∨ W.heap.size ≤ g) : b ∉ frBl p (some ⟨g, 0, none⟩) := by
  intro hm
  rcases List.mem_cons.1 hm with rfl | hm
  · exact h (by simp [frBl])
  · simp only [List.mem_singleton] at hm
    subst hm
    rcases hg with hg | hg
    · exact h hg
    · omega
def SearchOK (w : World) (N : Nat) (G : List Arc) (s : Int) (e : Ending) (w' : World) : Prop :=
  ∃ O outs, e = .returned (.slice (some ⟨O, 0, none⟩) N N) ∧ outs.length = N ∧ Row w' O 52 (frRow outs) ∧ Short G s N (outF outs) ∧ (∀ i, i < N → outs[i]!.weight = -1 ∨ 0 ≤ outs[i]!.weight) ∧ Below w.heap.size w w' ∧ w.heap.size ≤ O
end Go.Proofs.YtmcfhiddhifdcaaDoor
