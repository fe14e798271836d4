/- Plain: along the forest of the lightest edges what is light is as light as along all edges. Conditions: the graph is one that may be. -/
import Derived.Test.YtdiinphojjpadaaKruskalP
import Derived.Test.YtdiinphojjpadaaNarrowP
namespace Go.Proofs.Ytdiinphojjpadaa
/-- the forest's edges -/
noncomputable def treeE (N : Nat) (l : List Edge) : List Edge := (forest N l).map (eAt l)
theorem tree_sub {N : Nat} {l : List Edge} : ∀ e ∈ treeE N l, e ∈ l := fun e he => by
  obtain ⟨i, hi, rfl⟩ := List.mem_map.1 he
  have := (mem_forest.1 hi).1
  exact eAt_mem this.1 this.2
theorem tree_ok {N : Nat} {l : List Edge} (hg : graphErr N l = 0) (hlen : (forest N l).length ≤ l.length) : graphErr N (treeE N l) = 0 := by
  obtain ⟨h1, h2, h3⟩ := graphErr_ok hg
  refine graphErr_of h1 ?_ fun e he => h3 e (tree_sub e he)
  unfold treeE
  rw [List.length_map]; omega
theorem mem_light_o {l : List Edge} {m u v : Int} {o : List Int} (ho : ∀ i, i ∈ o ↔ (0 ≤ i ∧ i < l.length) ∧ wOf l i ≤ m) : (u, v) ∈ o.map (eOf l) ↔ (u, v) ∈ lightE m l := by
  rw [List.mem_map, mem_lightE]
  constructor
  · rintro ⟨i, hi, hq⟩
    obtain ⟨h1, h2⟩ := (ho i).1 hi
    simp only [eOf, Prod.mk.injEq] at hq
    exact ⟨eAt l i, eAt_mem h1.1 h1.2, h2, hq⟩
  · rintro ⟨e, he, hw, h1, h2⟩
    obtain ⟨k, hk, rfl⟩ := List.getElem_of_mem he
    have e1 : eAt l (k : Int) = l[k] := eAt_of (List.getElem?_eq_getElem hk)
    refine ⟨(k : Int), (ho _).2 ⟨⟨by omega, by omega⟩, by unfold wOf; rw [e1]; exact hw⟩, ?_⟩
    unfold eOf; rw [e1, h1, h2]
theorem tree_by {N : Nat} {l : List Edge} (hg : graphErr N l = 0) (m : Int) (a b : Nat) : By N (treeE N l) m a b ↔ By N l m a b := by
  constructor
  · intro h
    exact Conn.mono h fun p hp => by
      obtain ⟨u, v⟩ := p
      obtain ⟨e, he, h1⟩ := mem_lightE.1 hp
      exact mem_lightE.2 ⟨e, tree_sub e he, h1⟩
  · intro h
    have hE := kord_ends hg
    obtain ⟨k, hk, ek⟩ := light_take (wOf l) m (kord l) (kord_weights l)
    have h1 : Conn N (((kord l).take k).map (eOf l)) a b := Conn.mono h fun p hp => by
      obtain ⟨u, v⟩ := p
      refine (mem_light_o (o := (kord l).take k) (m := m) fun i => ?_).2 hp
      rw [← ek, List.mem_filter]
      constructor
      · rintro ⟨q1, q2⟩; exact ⟨(kord_ord l).2.1 i q1, by simpa using q2⟩
      · rintro ⟨q1, q2⟩; exact ⟨(kord_ord l).full i q1.1 q1.2, by simpa using q2⟩
    have h2 := ((inF_forest N l).upto hE k hk).1
    have h3 : Conn N ((((kord l).take k).filter (inF N l)).map (eOf l)) a b := conn_tied h1 fun i hi => h2 i (Tied.self (fun j hj => hE j (List.mem_of_mem_take hj)) hi)
    refine Conn.mono h3 fun p hp => ?_
    obtain ⟨i, hi, rfl⟩ := List.mem_map.1 hp
    rw [List.mem_filter, ← ek, List.mem_filter] at hi
    obtain ⟨⟨q1, q2⟩, q3⟩ := hi
    have q4 := (kord_ord l).2.1 i q1
    refine mem_lightE.2 ⟨eAt l i, List.mem_map.2 ⟨i, mem_forest.2 ⟨q4, q3⟩, rfl⟩, (by have := of_decide_eq_true q2; exact this), rfl, rfl⟩
theorem tree_least {N : Nat} {l : List Edge} (hg : graphErr N l = 0) {a b : Nat} {x : Int} : LeastIs N (treeE N l) a b x ↔ LeastIs N l a b x := by
  unfold LeastIs
  rw [tree_by hg]
  constructor
  · rintro ⟨h1, h2, h3⟩; exact ⟨h1, h2, fun m hm hb => h3 m hm ((tree_by hg m a b).2 hb)⟩
  · rintro ⟨h1, h2, h3⟩; exact ⟨h1, h2, fun m hm hb => h3 m hm ((tree_by hg m a b).1 hb)⟩
end Go.Proofs.Ytdiinphojjpadaa
