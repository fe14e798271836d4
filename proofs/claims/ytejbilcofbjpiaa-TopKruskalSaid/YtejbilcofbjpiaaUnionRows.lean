/- Plain: the groups of things, each rising, by their first things. Conditions: none. -/
namespace Go.Proofs.Ytejbilcofbjpiaa

/-- of the first k things those that stand for a group, as they are met -/
def firsts (R : Nat → Nat) : Nat → List Nat
  | 0 => []
  | k + 1 => if R k ∈ firsts R k then firsts R k else firsts R k ++ [R k]
/-- of the first k things those of one group -/
def members (R : Nat → Nat) (k r : Nat) : List Int := ((List.range k).filter fun x => R x == r).map fun (i : Nat) => (i : Int)
def groupsOf (R : Nat → Nat) (k : Nat) : List (List Int) := (firsts R k).map (members R k)

theorem members_succ (R : Nat → Nat) (k r : Nat) : members R (k + 1) r = members R k r ++ if R k = r then [(k : Int)] else [] := by
  unfold members
  rw [List.range_succ, List.filter_append, List.map_append]
  by_cases h : R k = r
  · simp [h]
  · simp [h]
theorem mem_firsts (R : Nat → Nat) : ∀ (k r : Nat), r ∈ firsts R k ↔ ∃ x, x < k ∧ R x = r := by
  intro k
  induction k with
  | zero => intro r; simp [firsts]
  | succ k ih =>
    intro r
    unfold firsts
    split
    · next h =>
      rw [ih]
      constructor
      · rintro ⟨x, hx, e⟩; exact ⟨x, by omega, e⟩
      · rintro ⟨x, hx, e⟩
        by_cases hxk : x = k
        · subst hxk; rw [← e]; exact (ih _).1 h
        · exact ⟨x, by omega, e⟩
    · next h =>
      rw [List.mem_append, ih]
      constructor
      · rintro (⟨x, hx, e⟩ | h)
        · exact ⟨x, by omega, e⟩
        · simp at h; exact ⟨k, by omega, h.symm⟩
      · rintro ⟨x, hx, e⟩
        by_cases hxk : x = k
        · subst hxk; right; simp [e]
        · left; exact ⟨x, by omega, e⟩
theorem firsts_nodup (R : Nat → Nat) : ∀ k, (firsts R k).Nodup := by
  intro k
  induction k with
  | zero => simp [firsts]
  | succ k ih =>
    unfold firsts
    split
    · exact ih
    · next h => exact List.nodup_append.2 ⟨ih, by simp, by intro a ha b hb; simp at hb; subst hb; exact fun e => h (e ▸ ha)⟩
theorem firsts_len (R : Nat → Nat) : ∀ k, (firsts R k).length ≤ k := by
  intro k
  induction k with
  | zero => simp [firsts]
  | succ k ih => unfold firsts; split <;> (try simp only [List.length_append, List.length_cons, List.length_nil]) <;> omega
/-- the next thing is of a group that is there -/
theorem groups_old {R : Nat → Nat} {k j : Nat} (h : (firsts R k)[j]? = some (R k)) : firsts R (k + 1) = firsts R k ∧ groupsOf R (k + 1) = (groupsOf R k).set j (members R k (R k) ++ [(k : Int)]) := by
  have hm : R k ∈ firsts R k := List.mem_of_getElem? h
  have e : firsts R (k + 1) = firsts R k := by rw [firsts, if_pos hm]
  refine ⟨e, ?_⟩
  unfold groupsOf
  rw [e]
  apply List.ext_getElem
  · simp
  · intro i h1 h2
    simp only [List.length_map] at h1
    rw [List.getElem_set]
    simp only [List.getElem_map]
    rw [members_succ]
    have hj := List.getElem?_eq_some_iff.1 h
    by_cases hij : j = i
    · subst hij
      rw [if_pos rfl, hj.2, if_pos rfl]
    · rw [if_neg hij, if_neg, List.append_nil]
      intro e2
      have := (List.nodup_iff_pairwise_ne.1 (firsts_nodup R k))
      have hn := List.pairwise_iff_getElem.1 this
      rcases Nat.lt_or_ge i j with hlt | hge
      · exact hn i j h1 hj.1 hlt (by rw [hj.2, e2])
      · exact hn j i hj.1 h1 (by omega) (by rw [hj.2, e2])
/-- the next thing is the first one of its group -/
theorem groups_new {R : Nat → Nat} {k : Nat} (h : R k ∉ firsts R k) : firsts R (k + 1) = firsts R k ++ [R k] ∧ groupsOf R (k + 1) = groupsOf R k ++ [[(k : Int)]] := by
  have e : firsts R (k + 1) = firsts R k ++ [R k] := by rw [firsts, if_neg h]
  refine ⟨e, ?_⟩
  unfold groupsOf
  rw [e, List.map_append]
  congr 1
  · refine List.map_congr_left fun r hr => ?_
    rw [members_succ, if_neg, List.append_nil]
    exact fun e2 => h (e2 ▸ hr)
  · simp only [List.map_cons, List.map_nil]
    rw [members_succ, if_pos rfl]
    have : members R k (R k) = [] := by
      unfold members
      rw [List.filter_eq_nil_iff.2]
      · rfl
      · intro x hx e2
        exact h ((mem_firsts R k _).2 ⟨x, List.mem_range.1 hx, by simpa using e2⟩)
    rw [this]; rfl
/-- the groups hang on who is with whom alone -/
theorem groups_same {n : Nat} {R R' : Nat → Nat} (h : ∀ x y, x < n → y < n → (R x = R y ↔ R' x = R' y)) : ∀ k, k ≤ n → groupsOf R k = groupsOf R' k ∧ ∀ (j x : Nat), x < n → ((firsts R k)[j]? = some (R x) ↔ (firsts R' k)[j]? = some (R' x)) := by
  intro k
  induction k with
  | zero => intro _; exact ⟨rfl, fun j x _ => by simp [firsts]⟩
  | succ k ih =>
    intro hk
    obtain ⟨h1, h2⟩ := ih (by omega)
    by_cases hm : R k ∈ firsts R k
    · obtain ⟨j, hj⟩ := List.getElem?_of_mem hm
      have hj' := (h2 j k (by omega)).1 hj
      obtain ⟨a1, a2⟩ := groups_old hj
      obtain ⟨b1, b2⟩ := groups_old hj'
      have hmem : members R k (R k) = members R' k (R' k) := by
        unfold members
        congr 1
        refine List.filter_congr fun x hx => ?_
        have hx' := List.mem_range.1 hx
        have := h x k (by omega) (by omega)
        rw [Bool.eq_iff_iff, beq_iff_eq, beq_iff_eq]
        exact this
      refine ⟨by rw [a2, b2, h1, hmem], fun i x hx => ?_⟩
      rw [a1, b1]; exact h2 i x hx
    · have hm' : R' k ∉ firsts R' k := fun hm' => by
        obtain ⟨j, hj⟩ := List.getElem?_of_mem hm'
        exact hm (List.mem_of_getElem? ((h2 j k (by omega)).2 hj))
      obtain ⟨a1, a2⟩ := groups_new hm
      obtain ⟨b1, b2⟩ := groups_new hm'
      have hl : (firsts R k).length = (firsts R' k).length := by
        have := congrArg List.length h1
        simpa [groupsOf] using this
      refine ⟨by rw [a2, b2, h1], fun i x hx => ?_⟩
      rw [a1, b1]
      by_cases hi : i < (firsts R k).length
      · rw [List.getElem?_append_left hi, List.getElem?_append_left (by omega)]; exact h2 i x hx
      · rw [List.getElem?_append_right (by omega), List.getElem?_append_right (by omega), hl]
        cases hi2 : i - (firsts R' k).length with
        | zero =>
          simp only [List.getElem?_cons_zero, Option.some.injEq]
          have := h k x (by omega) hx
          exact this
        | succ m => simp
/-- there are as many groups as there are things that stand for one -/
theorem firsts_roots {n : Nat} {R : Nat → Nat} (hl : ∀ x, x < n → R x < n) (hi : ∀ x, x < n → R (R x) = R x) : (firsts R n).length = ((List.range n).filter fun x => R x == x).length := by
  have hp : (firsts R n).Perm ((List.range n).filter fun x => R x == x) := by
    rw [List.perm_iff_count]
    intro a
    rw [(firsts_nodup R n).count, (show ((List.range n).filter fun x => R x == x).Nodup from List.Pairwise.filter _ List.nodup_range).count]
    congr 1
    apply propext
    rw [mem_firsts, List.mem_filter, List.mem_range]
    constructor
    · rintro ⟨x, hx, rfl⟩; exact ⟨hl x hx, by simp [hi x hx]⟩
    · rintro ⟨h1, h2⟩; exact ⟨a, h1, by simpa using h2⟩
  exact hp.length_eq
end Go.Proofs.Ytejbilcofbjpiaa
