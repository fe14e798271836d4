/- Plain: the search for short ways: what is settled, what is in the heap. Conditions: weights not below 0, and no more than 1000. -/
import Derived.Test.YtmcfhiddhifdcaaDoorHeapPlain
namespace Go.Proofs.YtmcfhiddhifdcaaDoor
/-- an arc: from, to, weight -/
abbrev Arc := Int × Int × Int
/-- a walk from s to v, of that weight and of so many arcs -/
inductive Reach (G : List Arc) (s : Int) : Int → Int → Int → Prop
  | start : Reach G s s 0 0
  | step {u w e v c : Int} : Reach G s u w e → (u, v, c) ∈ G → Reach G s v (w + c) (e + 1)
def le2 (w e w' e' : Int) : Prop := w < w' ∨ (w = w' ∧ e ≤ e')
structure Fr where
  weight : Int
  edges : Int
  node : Int
deriving Inhabited, DecidableEq
def nearerB (a b : Fr) : Bool := decide (a.weight < b.weight ∨ a.weight = b.weight ∧ (a.edges < b.edges ∨ a.edges = b.edges ∧ a.node < b.node))
theorem nearerB_first : Firsts nearerB := by
  constructor
  · intro a b; simp only [nearerB, decide_eq_true_eq, decide_eq_false_iff_not]; omega
  · intro a b c; simp only [nearerB, decide_eq_false_iff_not]; omega
theorem not_nearer {a b : Fr} (h : nearerB a b = false) : le2 b.weight b.edges a.weight a.edges := by
  simp only [nearerB, decide_eq_false_iff_not] at h; unfold le2; omega
/-- arcs between n nodes, none heavier than 1000 -/
def Arcs (n : Nat) (G : List Arc) : Prop := ∀ u v c, (u, v, c) ∈ G → (0 ≤ u ∧ u < n) ∧ (0 ≤ v ∧ v < n) ∧ (0 ≤ c ∧ c ≤ 1000)
def settled (n : Nat) (out : Int → Option (Int × Int)) : Nat := ((List.range n).filter fun v => (out (v : Nat)).isSome).length
def settle (out : Int → Option (Int × Int)) (x : Fr) : Int → Option (Int × Int) := fun v => if v = x.node then some (x.weight, x.edges) else out v
theorem settled_le (n : Nat) (out : Int → Option (Int × Int)) : settled n out ≤ n := by
  unfold settled
  have := List.length_filter_le (fun v : Nat => (out (v : Nat)).isSome) (List.range n)
  simpa using this
theorem settled_more {n : Nat} {out : Int → Option (Int × Int)} {x : Fr} (h0 : 0 ≤ x.node) (h1 : x.node < n) (hn : out x.node = none) : settled n (settle out x) = settled n out + 1 := by
  obtain ⟨y, hy⟩ : ∃ y : Nat, x.node = y := ⟨x.node.toNat, by omega⟩
  unfold settled
  have key : ∀ k : Nat, ((List.range k).filter fun v => (settle out x (v : Nat)).isSome).length = ((List.range k).filter fun v => (out (v : Nat)).isSome).length + if y < k then 1 else 0 := by
    intro k
    induction k with
    | zero => simp
    | succ k ih =>
      rw [List.range_succ, List.filter_append, List.filter_append, List.length_append, List.length_append, ih]
      by_cases hk : k = y
      · subst hk
        have e1 : (settle out x ((k : Nat) : Int)).isSome = true := by unfold settle; rw [if_pos hy.symm]; rfl
        have e2 : (out ((k : Nat) : Int)).isSome = false := by rw [← hy, hn]; rfl
        simp [e1, e2]
      · have e1 : settle out x ((k : Nat) : Int) = out ((k : Nat) : Int) := by unfold settle; rw [if_neg (by omega)]
        simp only [List.filter_cons, List.filter_nil, e1]
        by_cases h : y < k
        · rw [if_pos h, if_pos (show y < k + 1 by omega)]; omega
        · rw [if_neg h, if_neg (show ¬ y < k + 1 by omega)]; omega
  rw [key n, if_pos (by omega)]
/-- how the search stands -/
structure DI (G : List Arc) (s : Int) (n : Nat) (out : Int → Option (Int × Int)) (H : List Fr) : Prop where
  soundO : ∀ v w e, out v = some (w, e) → Reach G s v w e ∧ (0 ≤ v ∧ v < n) ∧ (0 ≤ e ∧ e ≤ settled n out) ∧ (0 ≤ w ∧ w ≤ 1000 * e)
  soundH : ∀ x ∈ H, Reach G s x.node x.weight x.edges ∧ (0 ≤ x.node ∧ x.node < n) ∧ (0 ≤ x.edges ∧ x.edges ≤ settled n out) ∧ (0 ≤ x.weight ∧ x.weight ≤ 1000 * x.edges)
  mono : ∀ u w e, out u = some (w, e) → ∀ x ∈ H, le2 w e x.weight x.edges
  closed : ∀ u w e, out u = some (w, e) → ∀ v c, (u, v, c) ∈ G → (∃ w' e', out v = some (w', e') ∧ le2 w' e' (w + c) (e + 1)) ∨ (⟨w + c, e + 1, v⟩ : Fr) ∈ H
  from_ : (∃ w' e', out s = some (w', e') ∧ le2 w' e' 0 0) ∨ (⟨0, 0, s⟩ : Fr) ∈ H
section
variable {G : List Arc} {s : Int} {n : Nat} {out : Int → Option (Int × Int)} {H : List Fr}
theorem DI.start (h0 : 0 ≤ s) (h1 : s < n) : DI G s n (fun _ => none) [⟨0, 0, s⟩] := by
  refine ⟨fun _ _ _ h => by simp at h, fun x hx => ?_, fun _ _ _ h => by simp at h, fun _ _ _ h => by simp at h, Or.inr (by simp)⟩
  simp only [List.mem_singleton] at hx
  subst hx
  exact ⟨Reach.start, ⟨h0, h1⟩, ⟨by show (0 : Int) ≤ 0; omega, by show (0 : Int) ≤ _; omega⟩, by show (0 : Int) ≤ 0; omega, by show (0 : Int) ≤ 1000 * 0; omega⟩
theorem DI.perm {H' : List Fr} (h : DI G s n out H) (hp : H.Perm H') : DI G s n out H' :=
  ⟨h.soundO, fun x hx => h.soundH x (hp.mem_iff.2 hx), fun u w e ho x hx => h.mono u w e ho x (hp.mem_iff.2 hx),
    fun u w e ho v c hg => (h.closed u w e ho v c hg).imp id fun hm => hp.mem_iff.1 hm, h.from_.imp id fun hm => hp.mem_iff.1 hm⟩
theorem DI.old {x : Fr} (h : DI G s n out (x :: H)) {p : Int × Int} (ho : out x.node = some p) : DI G s n out H := by
  have hx := h.mono x.node p.1 p.2 ho x (by simp)
  refine ⟨h.soundO, fun y hy => h.soundH y (by simp [hy]), fun u w e hu y hy => h.mono u w e hu y (by simp [hy]), fun u w e hu v c hg => ?_, ?_⟩
  · rcases h.closed u w e hu v c hg with hc | hc
    · exact Or.inl hc
    · rcases List.mem_cons.1 hc with e1 | e1
      · left
        refine ⟨p.1, p.2, ?_, ?_⟩
        · rw [← e1] at ho; exact ho
        · rw [← e1] at hx; exact hx
      · exact Or.inr e1
  · rcases h.from_ with hc | hc
    · exact Or.inl hc
    · rcases List.mem_cons.1 hc with e1 | e1
      · left
        refine ⟨p.1, p.2, ?_, ?_⟩
        · rw [← e1] at ho; exact ho
        · rw [← e1] at hx; exact hx
      · exact Or.inr e1
/-- what is pushed behind x -/
def pushes (G : List Arc) (x : Fr) : List Fr := (G.filter fun a => decide (a.1 = x.node)).map fun a => ⟨x.weight + a.2.2, x.edges + 1, a.2.1⟩
theorem mem_pushes {x y : Fr} : y ∈ pushes G x ↔ ∃ v c, (x.node, v, c) ∈ G ∧ y = ⟨x.weight + c, x.edges + 1, v⟩ := by
  unfold pushes
  rw [List.mem_map]
  constructor
  · rintro ⟨⟨u, v, c⟩, ha, rfl⟩
    rw [List.mem_filter] at ha
    have := of_decide_eq_true ha.2
    simp only at this
    subst this
    exact ⟨v, c, ha.1, rfl⟩
  · rintro ⟨v, c, hg, rfl⟩
    exact ⟨(x.node, v, c), List.mem_filter.2 ⟨hg, decide_eq_true rfl⟩, rfl⟩
theorem DI.new {x : Fr} (hG : Arcs n G) (h : DI G s n out (x :: H)) (hm : ∀ y ∈ H, nearerB y x = false) (ho : out x.node = none) : DI G s n (settle out x) (H ++ pushes G x) := by
  obtain ⟨hr, hx1, hx2, hx3⟩ := h.soundH x (by simp)
  have hc := settled_more hx1.1 hx1.2 ho
  have hold : ∀ u w e, settle out x u = some (w, e) → (u = x.node ∧ w = x.weight ∧ e = x.edges) ∨ (u ≠ x.node ∧ out u = some (w, e)) := fun u w e hu => by
    unfold settle at hu
    split at hu
    · next e1 => injection hu with hu; injection hu with h1 h2; exact Or.inl ⟨e1, h1.symm, h2.symm⟩
    · next e1 => exact Or.inr ⟨e1, hu⟩
  have hself : settle out x x.node = some (x.weight, x.edges) := by unfold settle; rw [if_pos rfl]
  have hkeep : ∀ u w e, out u = some (w, e) → settle out x u = some (w, e) := fun u w e hu => by
    unfold settle
    rw [if_neg (fun e1 => by rw [e1, ho] at hu; cases hu)]; exact hu
  have hless : ∀ u w e, settle out x u = some (w, e) → le2 w e x.weight x.edges := fun u w e hu => by
    rcases hold u w e hu with ⟨rfl, rfl, rfl⟩ | ⟨_, h1⟩
    · unfold le2; omega
    · exact h.mono u w e h1 x (by simp)
  refine ⟨fun v w e hv => ?_, fun y hy => ?_, fun u w e hu y hy => ?_, fun u w e hu v c hg => ?_, ?_⟩
  · rw [hc]
    rcases hold v w e hv with ⟨rfl, rfl, rfl⟩ | ⟨_, h1⟩
    · exact ⟨hr, hx1, ⟨hx2.1, by omega⟩, hx3⟩
    · obtain ⟨a1, a2, a3, a4⟩ := h.soundO v w e h1
      exact ⟨a1, a2, ⟨a3.1, by omega⟩, a4⟩
  · rw [hc]
    rcases List.mem_append.1 hy with hy | hy
    · obtain ⟨a1, a2, a3, a4⟩ := h.soundH y (by simp [hy])
      exact ⟨a1, a2, ⟨a3.1, by omega⟩, a4⟩
    · obtain ⟨v, c, hg, rfl⟩ := mem_pushes.1 hy
      obtain ⟨_, g2, g3⟩ := hG _ _ _ hg
      exact ⟨hr.step hg, g2, ⟨by show 0 ≤ x.edges + 1; omega, by show x.edges + 1 ≤ _; omega⟩, by show 0 ≤ x.weight + c; omega, by show x.weight + c ≤ 1000 * (x.edges + 1); omega⟩
  · have h1 := hless u w e hu
    rcases List.mem_append.1 hy with hy | hy
    · have h2 := not_nearer (hm y hy)
      unfold le2 at *; omega
    · obtain ⟨v, c, hg, rfl⟩ := mem_pushes.1 hy
      obtain ⟨_, _, g3⟩ := hG _ _ _ hg
      show le2 w e (x.weight + c) (x.edges + 1)
      unfold le2 at *; omega
  · rcases hold u w e hu with ⟨rfl, rfl, rfl⟩ | ⟨_, h1⟩
    · exact Or.inr (List.mem_append.2 (Or.inr (mem_pushes.2 ⟨v, c, hg, rfl⟩)))
    · rcases h.closed u w e h1 v c hg with ⟨w', e', a1, a2⟩ | hc
      · exact Or.inl ⟨w', e', hkeep v w' e' a1, a2⟩
      · rcases List.mem_cons.1 hc with e1 | e1
        · left
          refine ⟨x.weight, x.edges, ?_, ?_⟩
          · rw [← e1] at hself ⊢; exact hself
          · rw [← e1]; unfold le2; simp
        · exact Or.inr (List.mem_append.2 (Or.inl e1))
  · rcases h.from_ with ⟨w', e', a1, a2⟩ | hc
    · exact Or.inl ⟨w', e', hkeep s w' e' a1, a2⟩
    · rcases List.mem_cons.1 hc with e1 | e1
      · left
        refine ⟨x.weight, x.edges, ?_, ?_⟩
        · rw [← e1] at hself ⊢; exact hself
        · rw [← e1]; unfold le2; simp
      · exact Or.inr (List.mem_append.2 (Or.inl e1))
/-- what the search leaves: of all walks to each node the lightest, and of these one of the fewest arcs -/
structure Short (G : List Arc) (s : Int) (n : Nat) (out : Int → Option (Int × Int)) : Prop where
  sound : ∀ v w e, out v = some (w, e) → Reach G s v w e ∧ (0 ≤ v ∧ v < n) ∧ (0 ≤ e ∧ e ≤ n) ∧ (0 ≤ w ∧ w ≤ 1000 * e)
  first : out s = some (0, 0)
  closed : ∀ u w e, out u = some (w, e) → ∀ v c, (u, v, c) ∈ G → ∃ w' e', out v = some (w', e') ∧ le2 w' e' (w + c) (e + 1)
theorem DI.ends (h : DI G s n out []) : Short G s n out := by
  have hs := settled_le n out
  refine ⟨fun v w e ho => ?_, ?_, fun u w e hu v c hg => ?_⟩
  · obtain ⟨a1, a2, a3, a4⟩ := h.soundO v w e ho
    exact ⟨a1, a2, ⟨a3.1, by omega⟩, a4⟩
  · rcases h.from_ with ⟨w', e', a1, a2⟩ | hc
    · obtain ⟨_, _, b3, b4⟩ := h.soundO s w' e' a1
      have : w' = 0 ∧ e' = 0 := by unfold le2 at a2; omega
      rw [a1, this.1, this.2]
    · cases hc
  · rcases h.closed u w e hu v c hg with hc | hc
    · exact hc
    · cases hc
theorem Short.least (h : Short G s n out) {v w e : Int} (hr : Reach G s v w e) : ∃ w' e', out v = some (w', e') ∧ le2 w' e' w e := by
  induction hr with
  | start => exact ⟨0, 0, h.first, Or.inr ⟨rfl, Int.le_refl _⟩⟩
  | step _ hg ih =>
    obtain ⟨w1, e1, h1, h2⟩ := ih
    obtain ⟨w2, e2, h3, h4⟩ := h.closed _ _ _ h1 _ _ hg
    exact ⟨w2, e2, h3, by unfold le2 at *; omega⟩
/-- each but the first has an arc along which it is come to -/
theorem Short.tight (h : Short G s n out) {v w e : Int} (hv : out v = some (w, e)) (hne : v ≠ s) : ∃ u w' e' c, (u, v, c) ∈ G ∧ out u = some (w', e') ∧ w = w' + c ∧ e = e' + 1 := by
  have hr := (h.sound v w e hv).1
  cases hr with
  | start => exact absurd rfl hne
  | step hr hg =>
    obtain ⟨w1, e1, h1, h2⟩ := h.least hr
    obtain ⟨w2, e2, h3, h4⟩ := h.closed _ _ _ h1 _ _ hg
    rw [hv] at h3
    injection h3 with h3
    injection h3 with h5 h6
    exact ⟨_, w1, e1, _, hg, h1, by unfold le2 at *; omega, by unfold le2 at *; omega⟩
end
end Go.Proofs.YtmcfhiddhifdcaaDoor
