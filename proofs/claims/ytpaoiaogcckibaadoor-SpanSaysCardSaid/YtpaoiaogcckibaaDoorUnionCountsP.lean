/- Plain facts for UnionCounts: each thing is in just one group. Conditions: none. -/
import Derived.Test.YtpaoiaogcckibaaDoorUnionRows
import Derived.Test.YtpaoiaogcckibaaDoorRowsMem
namespace Go.Proofs.YtpaoiaogcckibaaDoor
theorem members_count (R : Nat → Nat) (k r x : Nat) : (members R k r).count (x : Int) = if x < k ∧ R x = r then 1 else 0 := by
  induction k with
  | zero => simp [members]
  | succ k ih =>
    rw [members_succ, List.count_append, ih]
    by_cases hk : x = k
    · subst hk
      by_cases hr : R x = r
      · simp [hr]
      · simp [hr]
    · by_cases hr : R k = r
      · have h1 : ¬ ((k : Int) = (x : Int)) := by omega
        have h2 : (x < k + 1 ∧ R x = r) ↔ (x < k ∧ R x = r) := by constructor <;> rintro ⟨a, b⟩ <;> exact ⟨by omega, b⟩
        rw [if_pos hr]
        simp only [List.count_cons, List.count_nil, beq_iff_eq, h1, if_false, h2]
        split <;> rfl
      · have h2 : (x < k + 1 ∧ R x = r) ↔ (x < k ∧ R x = r) := by constructor <;> rintro ⟨a, b⟩ <;> exact ⟨by omega, b⟩
        rw [if_neg hr]
        simp only [List.count_nil, h2]
        split <;> rfl
theorem flat_count (R : Nat → Nat) {n x : Nat} (hx : x < n) (fs : List Nat) : ((fs.map (members R n)).flatten).count (x : Int) = fs.count (R x) := by
  induction fs with
  | nil => simp
  | cons r fs ih =>
    rw [List.map_cons, List.flatten_cons, List.count_append, ih, members_count, List.count_cons]
    by_cases h : R x = r
    · simp [h, hx]; omega
    · have h' : ¬ r = R x := fun e => h e.symm
      simp [h, h']
theorem groups_once (R : Nat → Nat) {n x : Nat} (hx : x < n) : ((groupsOf R n).flatten).count (x : Int) = 1 := by
  unfold groupsOf
  rw [flat_count R hx, (firsts_nodup R n).count, if_pos ((mem_firsts R n _).2 ⟨x, hx, rfl⟩)]
theorem groups_in (R : Nat → Nat) {n : Nat} {y : Int} (h : y ∈ (groupsOf R n).flatten) : ∃ x, x < n ∧ y = ((x : Nat) : Int) := by
  obtain ⟨g, hg, hy⟩ := List.mem_flatten.1 h
  obtain ⟨r, _, rfl⟩ := List.mem_map.1 hg
  unfold members at hy
  obtain ⟨x, hx, rfl⟩ := List.mem_map.1 hy
  exact ⟨x, by simpa using (List.mem_filter.1 hx).1, rfl⟩
/-- what has been counted before the i-th of the j-th row -/
def upTo (gs : List RV) (j : Nat) : List Int := ((gs.take j).map RV.xs).flatten
theorem upTo_all {gs : List RV} {j : Nat} (h : gs.length ≤ j) : upTo gs j = (gs.map RV.xs).flatten := by unfold upTo; rw [List.take_of_length_le h]
theorem upTo_next {gs : List RV} {j : Nat} {g : RV} (h : gs[j]? = some g) : upTo gs (j + 1) = upTo gs j ++ g.xs := by
  unfold upTo
  rw [List.take_add_one, h]; simp
theorem upTo_split {gs : List RV} {j i : Nat} {g : RV} {x : Int} (h : gs[j]? = some g) (hx : g.xs[i]? = some x) : ∃ t, (gs.map RV.xs).flatten = (upTo gs j ++ g.xs.take i ++ [x]) ++ t := by
  obtain ⟨hj, e⟩ := List.getElem?_eq_some_iff.1 h
  obtain ⟨hi, e2⟩ := List.getElem?_eq_some_iff.1 hx
  refine ⟨g.xs.drop (i + 1) ++ ((gs.drop (j + 1)).map RV.xs).flatten, ?_⟩
  have h1 : gs = gs.take j ++ g :: gs.drop (j + 1) := by rw [← e, ← List.drop_eq_getElem_cons hj, List.take_append_drop]
  have h2 : g.xs = g.xs.take i ++ x :: g.xs.drop (i + 1) := by rw [← e2, ← List.drop_eq_getElem_cons hi, List.take_append_drop]
  unfold upTo
  conv => lhs; rw [h1, List.map_append, List.flatten_append, List.map_cons, List.flatten_cons, h2]
  simp
/-- at each there is what has not been counted yet -/
theorem upTo_new {R : Nat → Nat} {n : Nat} {gs : List RV} (hg : gs.map RV.xs = groupsOf R n) {j i : Nat} {g : RV} {x : Int} (h : gs[j]? = some g) (hx : g.xs[i]? = some x) :
    ∃ y : Nat, y < n ∧ x = (y : Int) ∧ (upTo gs j ++ g.xs.take i).count (y : Int) = 0 := by
  obtain ⟨t, ht⟩ := upTo_split h hx
  rw [hg] at ht
  obtain ⟨y, hy, rfl⟩ := groups_in R (n := n) (y := x) (by rw [ht]; simp)
  refine ⟨y, hy, rfl, ?_⟩
  have := groups_once R hy
  rw [ht, List.count_append, List.count_append] at this
  simp only [List.count_cons_self, List.count_nil] at this
  omega
/-- how often each has been: a row of numbers -/
def cntRow (n : Nat) (l : List Int) : List Value := (List.range n).map fun (i : Nat) => .int .i64 ((l.count (i : Int) : Nat) : Int)
theorem cntRow_at {n : Nat} {l : List Int} {x : Nat} (hx : x < n) : (cntRow n l)[x]? = some (.int .i64 ((l.count (x : Int) : Nat) : Int)) := by simp [cntRow, hx]
theorem cntRow_nil (n : Nat) : List.replicate n (Value.int .i64 0) = cntRow n [] := by
  apply List.ext_getElem
  · simp [cntRow]
  · intro i h1 h2; simp [cntRow]
theorem cntRow_set {n : Nat} {l : List Int} {x : Nat} (h : l.count (x : Int) = 0) : (cntRow n l).set x (.int .i64 1) = cntRow n (l ++ [(x : Int)]) := by
  apply List.ext_getElem
  · simp [cntRow]
  · intro i h1 h2
    simp only [cntRow, List.getElem_set, List.getElem_map, List.getElem_range, List.count_append]
    by_cases e : x = i
    · subst e; simp [h]
    · have e' : ¬ ((x : Int) = (i : Int)) := by omega
      simp [e, e']
end Go.Proofs.YtpaoiaogcckibaaDoor
