/- Plain: whether some jobs can all be in time, as moore.InTime tells it. Conditions: none. -/
import Derived.Test.YtpaoiaogcckibaaDoorMooreQ
import Derived.Test.YtpaoiaogcckibaaDoorRise
namespace Go.Proofs.YtpaoiaogcckibaaDoor
open Go.RowKit
def subErr (l : List Job) (set : List Int) : Int := if jobErr l = 0 then riseErr l.length (-1) set else jobErr l
theorem subErr_ok {l : List Job} {set : List Int} (h : subErr l set = 0) : jobErr l = 0 ∧ (∀ i ∈ set, 0 ≤ i ∧ i < l.length) ∧ set.Pairwise (· < ·) := by
  unfold subErr at h
  split at h
  · next h0 =>
    obtain ⟨h1, h2⟩ := riseErr_ok _ _ _ h
    exact ⟨h0, fun i hi => (h1 i hi).2, h2⟩
  · next h0 => exact absurd h h0
theorem subErr_of {l : List Job} {set : List Int} (h : jobErr l = 0) (h1 : ∀ i ∈ set, 0 ≤ i ∧ i < l.length) (h2 : set.Pairwise (· < ·)) : subErr l set = 0 := by
  unfold subErr
  rw [if_pos h]
  exact riseErr_of _ _ _ (fun i hi => by have := h1 i hi; omega) h2
theorem rising_nodup {set : List Int} (h : set.Pairwise (· < ·)) : set.Nodup := by
  rw [List.nodup_iff_pairwise_ne]
  exact h.imp fun h => by omega
theorem rising_len {n : Nat} {set : List Int} (h1 : ∀ i ∈ set, 0 ≤ i ∧ i < (n : Int)) (h2 : set.Pairwise (· < ·)) : set.length ≤ n := by
  have := len_le_of_sub set (upto n) (rising_nodup h2) fun i hi => (mem_upto _ _).2 (h1 i hi)
  rwa [upto_len] at this
theorem jobAt_mem {l : List Job} {i : Int} (h0 : 0 ≤ i) (h1 : i < l.length) : jobAt l i ∈ l := by
  unfold jobAt List.getD
  rw [List.getElem?_eq_getElem (by omega)]
  exact List.getElem_mem _
theorem some_ok {l : List Job} {set : List Int} (h : subErr l set = 0) : jobErr (set.map (jobAt l)) = 0 := by
  obtain ⟨h0, h1, h2⟩ := subErr_ok h
  obtain ⟨h3, h4⟩ := jobErr_ok h0
  refine jobErr_of ?_ fun p hp => ?_
  · rw [List.length_map]
    have := rising_len h1 h2; omega
  · obtain ⟨i, hi, rfl⟩ := List.mem_map.1 hp
    exact h4 _ (jobAt_mem (h1 i hi).1 (h1 i hi).2)
theorem jobs_long {l : List Job} (h : jobErr l = 0) : Long0 l := fun j hj => by have := ((jobErr_ok h).2 j hj).1; omega
/-- the latest of the order by Due is not late just if all can be in time -/
theorem late_iff {l : List Job} {ys : List Int} (h : jobErr l = 0) (ho : IsOrd l.length ys) (hs : ys.Pairwise (Ahead (dueC l) id)) : lateVal l ys ≤ 0 ↔ FeasJ l := by
  unfold lateVal
  by_cases hz : l.length = 0
  · rw [if_pos hz]
    have : l = [] := List.eq_nil_of_length_eq_zero hz
    subst this
    exact ⟨fun _ j hj => by simp at hj, fun _ => Int.le_refl _⟩
  · rw [if_neg hz]
    exact feas_of_late (List.pairwise_map.2 (due_rising hs)) (jat_perm ho) (jobs_long h)
theorem moore_sub {l : List Job} {ys S : List Int} {k : Nat} (ho : IsOrd l.length ys) (h : Picks (jobAt l) ys k S) : ∀ i ∈ S, 0 ≤ i ∧ i < (l.length : Int) := fun i hi => ho.2.1 i (List.mem_of_mem_take (h.sub i hi))
/-- those that are picked are in time -/
theorem moore_in {l : List Job} {ys S : List Int} (hl : jobErr l = 0) (ho : IsOrd l.length ys) (h : Picks (jobAt l) ys l.length S) (hr : S.Pairwise (· < ·)) : subErr l S = 0 ∧ FeasJ (S.map (jobAt l)) :=
  ⟨subErr_of hl (moore_sub ho h) hr, h.feas⟩
/-- no others in time are more -/
theorem moore_most {l : List Job} {ys S set : List Int} (ho : IsOrd l.length ys) (h : Picks (jobAt l) ys l.length S) (hset : subErr l set = 0) (hf : FeasJ (set.map (jobAt l))) : set.length ≤ S.length := by
  obtain ⟨_, h1, h2⟩ := subErr_ok hset
  rw [← ho.1] at h
  exact h.most (rising_nodup h2) (fun i hi => ho.full i (h1 i hi).1 (h1 i hi).2) hf
/-- all are picked just if none is late -/
theorem moore_all {l : List Job} {ys S : List Int} (hl : jobErr l = 0) (ho : IsOrd l.length ys) (h : Picks (jobAt l) ys l.length S) : FeasJ l ↔ S.length = l.length := by
  have h1 : FeasJ (ys.map (jobAt l)) ↔ FeasJ l := ⟨fun hf => hf.perm (jat_perm ho), fun hf => hf.perm (jat_perm ho).symm⟩
  have h2 : ∀ i ∈ ys, 0 ≤ (jobAt l i).time := fun i hi => by have := (jobs_ok hl ho i hi).1; omega
  rw [← h1]
  rw [← ho.1] at h ⊢
  exact (h.all ho.2.2 h2).symm
/-- one fewer -/
theorem moore_fewer {l : List Job} {set : List Int} {k : Nat} (h : subErr l set = 0) (hf : FeasJ (set.map (jobAt l))) : subErr l (set.take k ++ set.drop (k + 1)) = 0 ∧ FeasJ ((set.take k ++ set.drop (k + 1)).map (jobAt l)) := by
  obtain ⟨h0, h1, h2⟩ := subErr_ok h
  have hsub : (set.take k ++ set.drop (k + 1)).Sublist set := by
    conv => rhs; rw [← List.take_append_drop k set]
    refine List.Sublist.append (List.Sublist.refl _) ?_
    rw [← List.drop_drop]
    exact List.drop_sublist _ _
  have hm : ∀ i ∈ set.take k ++ set.drop (k + 1), i ∈ set := fun i hi => hsub.subset hi
  have hp := h2.sublist hsub
  refine ⟨subErr_of h0 (fun i hi => h1 i (hm i hi)) hp, feas_sub (rising_nodup hp) hm hf fun i hi => ?_⟩
  have := ((jobErr_ok h0).2 _ (jobAt_mem (h1 i hi).1 (h1 i hi).2)).1
  omega
end Go.Proofs.YtpaoiaogcckibaaDoor
