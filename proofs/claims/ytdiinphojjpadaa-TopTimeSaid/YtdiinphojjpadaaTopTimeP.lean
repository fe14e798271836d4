/- Plain: the jobs that are in time in some order. Conditions: none. -/
import Derived.Test.YtdiinphojjpadaaMooreT
namespace Go.Proofs.Ytdiinphojjpadaa
open Go.RowKit
/-- those of an order that are in time, from a time on -/
def itL (l : List Job) (now : Int) : List Int → List Int
  | [] => []
  | i :: o => if now + (jobAt l i).time ≤ (jobAt l i).due then i :: itL l (now + (jobAt l i).time) o else itL l (now + (jobAt l i).time) o
theorem itL_snoc (l : List Job) (x : Int) : ∀ (o : List Int) (now : Int), itL l now (o ++ [x]) = itL l now o ++ (if now + sumT (o.map (jobAt l)) + (jobAt l x).time ≤ (jobAt l x).due then [x] else [])
  | [], now => by
    simp only [List.nil_append, itL, List.map_nil, sumT]
    split
    · next h => rw [if_pos (by simpa using h)]
    · next h => rw [if_neg (by simpa using h)]
  | i :: o, now => by
    have ih := itL_snoc l x o (now + (jobAt l i).time)
    have e : now + (jobAt l i).time + sumT (o.map (jobAt l)) = now + sumT ((i :: o).map (jobAt l)) := by
      simp only [List.map_cons, sumT]; omega
    rw [e] at ih
    simp only [List.cons_append, itL]
    split
    · rw [ih]; rfl
    · exact ih
theorem itL_sub (l : List Job) : ∀ (o : List Int) (now : Int), (itL l now o).Sublist o
  | [], _ => List.Sublist.refl _
  | i :: o, now => by
    rw [itL]
    split
    · exact (itL_sub l o _).cons_cons i
    · exact (itL_sub l o _).cons i
theorem itL_load (l : List Job) (D : Int) : ∀ (o : List Int) (now : Int), (∀ i ∈ o, 0 ≤ (jobAt l i).time) → loadJ ((itL l now o).map (jobAt l)) D = 0 ∨ now + loadJ ((itL l now o).map (jobAt l)) D ≤ D
  | [], _, _ => Or.inl rfl
  | i :: o, now, h => by
    have ih := itL_load l D o (now + (jobAt l i).time) fun j hj => h j (by simp [hj])
    have h0 := h i (by simp)
    rw [itL]
    split
    · next hi =>
      rw [List.map_cons, loadJ_cons]
      split
      · next hd =>
        right
        rcases ih with ih | ih
        · rw [ih]; omega
        · omega
      · rcases ih with ih | ih
        · left; omega
        · right; omega
    · rcases ih with ih | ih
      · exact Or.inl ih
      · right; omega
theorem itL_feas {l : List Job} {o : List Int} (hl : jobErr l = 0) (ho : IsOrd l.length o) : FeasJ ((itL l 0 o).map (jobAt l)) := fun j hj => by
  obtain ⟨i, hi, rfl⟩ := List.mem_map.1 hj
  have h1 := jobs_ok hl ho i ((itL_sub l o 0).subset hi)
  rcases itL_load l (jobAt l i).due o 0 (fun i hi => by have := (jobs_ok hl ho i hi).1; omega) with h | h
  · rw [h]; omega
  · omega
/-- the places of those that are in time, rising -/
def itSet (l : List Job) (o : List Int) : List Int := (upto l.length).filter fun i => decide (i ∈ itL l 0 o)
theorem itSet_ok {l : List Job} {o : List Int} (hl : jobErr l = 0) (ho : IsOrd l.length o) : subErr l (itSet l o) = 0 ∧ FeasJ ((itSet l o).map (jobAt l)) := by
  have hup : (upto l.length).Pairwise (· < ·) := upto_rising l.length
  have hr : (itSet l o).Pairwise (· < ·) := hup.filter _
  refine ⟨subErr_of hl (fun i hi => ?_) hr, ?_⟩
  · have := (List.mem_filter.1 hi).1
    exact (mem_upto _ _).1 this
  · refine (itL_feas hl ho).perm (List.Perm.map _ ((List.perm_ext_iff_of_nodup ((itL_sub l o 0).nodup ho.2.2) (rising_nodup hr)).2 fun i => ?_))
    constructor
    · intro hi
      have h1 := ho.2.1 i ((itL_sub l o 0).subset hi)
      exact List.mem_filter.2 ⟨(mem_upto _ _).2 h1, decide_eq_true hi⟩
    · intro hi
      exact of_decide_eq_true (List.mem_filter.1 hi).2
end Go.Proofs.Ytdiinphojjpadaa
