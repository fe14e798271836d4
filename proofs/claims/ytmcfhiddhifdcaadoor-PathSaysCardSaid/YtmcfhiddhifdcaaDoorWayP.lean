/- Plain: the way that path.Way tells; its beginnings are ways that are told. Conditions: none. -/
import Derived.Test.YtmcfhiddhifdcaaDoorSearchP
namespace Go.Proofs.YtmcfhiddhifdcaaDoor
open Go.RowKit
theorem Reach.trans {G : List Arc} {s u v w e w' e' : Int} (h : Reach G s u w e) (h2 : Reach G u v w' e') : Reach G s v (w + w') (e + e') := by
  induction h2 with
  | start => rw [Int.add_zero, Int.add_zero]; exact h
  | step _ hg ih => rw [← Int.add_assoc, ← Int.add_assoc]; exact ih.step hg
theorem Reach.zero {G : List Arc} {s v w e : Int} (h : Reach G s v w e) : 0 ≤ e ∧ (e = 0 → v = s) := by
  induction h with
  | start => exact ⟨by omega, fun _ => rfl⟩
  | step _ _ ih => exact ⟨by omega, fun h => by omega⟩
theorem mem_arcs_true {l : List Edge} {p q c : Int} : (p, q, c) ∈ arcs true l ↔ ∃ e ∈ l, e.b = p ∧ e.a = q ∧ e.weight = c := by
  unfold arcs
  rw [List.mem_map]
  constructor
  · rintro ⟨e, he, h⟩
    simp only [if_true, Prod.mk.injEq] at h
    exact ⟨e, he, h⟩
  · rintro ⟨e, he, h1, h2, h3⟩
    exact ⟨e, he, by simp only [if_true, h1, h2, h3]⟩
/-- is an edge a next one from u? -/
def stepB (D : Int → Option (Int × Int)) (u : Int) (e : Edge) : Bool :=
  match D e.b, D u with
  | some (w', k'), some (w, k) => decide (e.a = u ∧ w' + e.weight = w ∧ k' + 1 = k)
  | _, _ => false
theorem stepB_iff {D : Int → Option (Int × Int)} {u w k : Int} {e : Edge} (hu : D u = some (w, k)) : stepB D u e = true ↔ e.a = u ∧ D e.b = some (w - e.weight, k - 1) := by
  unfold stepB
  rw [hu]
  cases hb : D e.b with
  | none => simp
  | some p =>
    obtain ⟨w', k'⟩ := p
    simp only [decide_eq_true_eq, Option.some.injEq, Prod.mk.injEq]
    constructor
    · rintro ⟨h1, h2, h3⟩; exact ⟨h1, by omega, by omega⟩
    · rintro ⟨h1, h2, h3⟩; exact ⟨h1, by omega, by omega⟩
/-- the next node: of all ends of next edges the least -/
def nextFrom (D : Int → Option (Int × Int)) (u : Int) : List Edge → Int → Int
  | [], nx => nx
  | e :: l, nx => nextFrom D u l (if stepB D u e = true ∧ (nx < 0 ∨ e.b < nx) then e.b else nx)
theorem nextFrom_spec (D : Int → Option (Int × Int)) (u : Int) : ∀ (l : List Edge) (nx : Int), (∀ e ∈ l, 0 ≤ e.b) →
    ((nextFrom D u l nx = nx ∨ ∃ e ∈ l, stepB D u e = true ∧ nextFrom D u l nx = e.b) ∧ (0 ≤ nx → nextFrom D u l nx ≤ nx) ∧ (∀ e ∈ l, stepB D u e = true → nextFrom D u l nx ≤ e.b) ∧ ((0 ≤ nx ∨ ∃ e ∈ l, stepB D u e = true) → 0 ≤ nextFrom D u l nx)) := by
  intro l
  induction l with
  | nil => intro nx _; exact ⟨Or.inl rfl, fun _ => Int.le_refl _, fun e he => by simp at he, fun h => by rcases h with h | ⟨e, he, _⟩; exact h; simp at he⟩
  | cons e l ih =>
    intro nx hl
    have he := hl e (by simp)
    have hl' : ∀ x ∈ l, 0 ≤ x.b := fun x hx => hl x (by simp [hx])
    simp only [nextFrom]
    by_cases hc : stepB D u e = true ∧ (nx < 0 ∨ e.b < nx)
    · rw [if_pos hc]
      obtain ⟨h1, h2, h3, h4⟩ := ih e.b hl'
      have h5 := h2 he
      refine ⟨?_, fun h => by omega, fun x hx hs => ?_, fun _ => h4 (Or.inl he)⟩
      · right
        rcases h1 with h1 | ⟨x, hx, hs, h1⟩
        · exact ⟨e, by simp, hc.1, h1⟩
        · exact ⟨x, by simp [hx], hs, h1⟩
      · rcases List.mem_cons.1 hx with rfl | hx
        · exact h5
        · exact h3 x hx hs
    · rw [if_neg hc]
      obtain ⟨h1, h2, h3, h4⟩ := ih nx hl'
      refine ⟨?_, h2, fun x hx hs => ?_, fun h => h4 ?_⟩
      · rcases h1 with h1 | ⟨x, hx, hs, h1⟩
        · exact Or.inl h1
        · exact Or.inr ⟨x, by simp [hx], hs, h1⟩
      · rcases List.mem_cons.1 hx with rfl | hx
        · have hn : ¬ (nx < 0 ∨ x.b < nx) := fun h => hc ⟨hs, h⟩
          have := h2 (by omega)
          omega
        · exact h3 x hx hs
      · rcases h with h | ⟨x, hx, hs⟩
        · exact Or.inl h
        · rcases List.mem_cons.1 hx with rfl | hx
          · left
            have hn : ¬ (nx < 0 ∨ x.b < nx) := fun h => hc ⟨hs, h⟩
            omega
          · exact Or.inr ⟨x, hx, hs⟩
def nextOf (l : List Edge) (D : Int → Option (Int × Int)) (u : Int) : Int := nextFrom D u l (-1)
def wayFrom (l : List Edge) (D : Int → Option (Int × Int)) : Nat → Int → List Int
  | 0, _ => []
  | k + 1, u => nextOf l D u :: wayFrom l D k (nextOf l D u)
theorem wayFrom_len (l : List Edge) (D : Int → Option (Int × Int)) : ∀ k u, (wayFrom l D k u).length = k := by
  intro k
  induction k with
  | zero => intro u; rfl
  | succ k ih => intro u; simp [wayFrom, ih]
/-- a next edge, the least of them, where there is one more edge to go -/
theorem next_is {N : Nat} {l : List Edge} {D : Int → Option (Int × Int)} {t u w k : Int} (hD : Short (arcs true l) t N D) (hl : ∀ e ∈ l, 0 ≤ e.b) (hu : D u = some (w, k)) (hk : 0 < k) :
    ∃ e ∈ l, e.a = u ∧ e.b = nextOf l D u ∧ D (nextOf l D u) = some (w - e.weight, k - 1) ∧ (∀ x ∈ l, stepB D u x = true → nextOf l D u ≤ x.b) := by
  have hne : u ≠ t := fun h => by
    rw [h, hD.first] at hu; injection hu with hu; injection hu with _ hu; omega
  obtain ⟨v, w', e', c, hg, hv, hw, he⟩ := hD.tight hu hne
  obtain ⟨e, hm, h1, h2, h3⟩ := mem_arcs_true.1 hg
  have hs : stepB D u e = true := (stepB_iff hu).2 ⟨h2, by rw [h1, hv, h3]; congr 2 <;> omega⟩
  obtain ⟨a1, a2, a3, a4⟩ := nextFrom_spec D u l (-1) hl
  have h0 := a4 (Or.inr ⟨e, hm, hs⟩)
  rcases a1 with a1 | ⟨x, hx, hxs, a1⟩
  · rw [a1] at h0; omega
  · have := (stepB_iff hu).1 hxs
    refine ⟨x, hx, this.1, a1.symm, ?_, a3⟩
    show D (nextFrom D u l (-1)) = _
    rw [a1]; exact this.2
theorem way_begins {N : Nat} {l : List Edge} {D D' : Int → Option (Int × Int)} {t t' : Int} (hl : ∀ e ∈ l, 0 ≤ e.b) (hD : Short (arcs true l) t N D) (hD' : Short (arcs true l) t' N D') :
    ∀ (i k : Nat) (u w : Int), i ≤ k → D u = some (w, (k : Int)) → (u :: wayFrom l D k u)[i]! = t' → ∃ w' : Int, D t' = some (w', (k : Int) - (i : Int)) ∧ D' u = some (w - w', (i : Int)) ∧ wayFrom l D' i u = (wayFrom l D k u).take i := by
  intro i
  induction i with
  | zero =>
    intro k u w _ hu ht
    have : u = t' := by simpa using ht
    subst this
    refine ⟨w, by rw [hu]; simp, ?_, by simp [wayFrom]⟩
    rw [hD'.first, show w - w = 0 by omega]; rfl
  | succ i ih =>
    intro k u w hik hu ht
    obtain ⟨k, rfl⟩ : ∃ q, k = q + 1 := ⟨k - 1, by omega⟩
    obtain ⟨e, he, h1, h2, h3, h4⟩ := next_is hD hl hu (by omega)
    have h3' : D (nextOf l D u) = some (w - e.weight, (k : Int)) := by rw [h3]; congr 2; omega
    obtain ⟨w', i1, i2, i3⟩ := ih k (nextOf l D u) (w - e.weight) (by omega) h3' (by simpa [wayFrom] using ht)
    have harc : (nextOf l D u, u, e.weight) ∈ arcs true l := mem_arcs_true.2 ⟨e, he, h2, h1, rfl⟩
    obtain ⟨a, b, j1, j2⟩ := hD'.closed _ _ _ i2 _ _ harc
    have hr1 := (hD.sound _ _ _ i1).1
    have hr2 := (hD'.sound _ _ _ j1).1
    obtain ⟨a2, b2, j3, j4⟩ := hD.least (hr1.trans hr2)
    rw [hu] at j3
    injection j3 with j3
    injection j3 with j5 j6
    have hab : a = w - w' ∧ b = (i : Int) + 1 := by unfold le2 at j2 j4; omega
    have hu' : D' u = some (w - w', ((i + 1 : Nat) : Int)) := by rw [j1, hab.1, hab.2]; rfl
    refine ⟨w', by rw [i1]; congr 2; omega, hu', ?_⟩
    have hv : nextOf l D' u = nextOf l D u := by
      obtain ⟨e', he', g1, g2, g3, g4⟩ := next_is hD' hl hu' (by omega)
      have c1 : nextOf l D' u ≤ nextOf l D u := by
        rw [← h2]
        refine g4 e he ((stepB_iff hu').2 ⟨h1, ?_⟩)
        rw [h2, i2]; congr 2 <;> omega
      have c2 : nextOf l D u ≤ nextOf l D' u := by
        rw [← g2]
        refine h4 e' he' ((stepB_iff hu).2 ⟨g1, ?_⟩)
        have hr3 := (hD'.sound _ _ _ g3).1
        obtain ⟨a3, b3, j7, j8⟩ := hD.least (hr1.trans hr3)
        have harc' : (nextOf l D' u, u, e'.weight) ∈ arcs true l := mem_arcs_true.2 ⟨e', he', g2, g1, rfl⟩
        obtain ⟨a4, b4, j9, j10⟩ := hD.closed _ _ _ j7 _ _ harc'
        rw [hu] at j9
        injection j9 with j9
        injection j9 with j11 j12
        rw [g2, j7]
        have : a3 = w - e'.weight ∧ b3 = ((k + 1 : Nat) : Int) - 1 := by unfold le2 at j8 j10; omega
        rw [this.1, this.2]
      omega
    simp only [wayFrom, List.take_succ_cons]
    rw [hv, i3]
end Go.Proofs.YtmcfhiddhifdcaaDoor
