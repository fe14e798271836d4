/- Plain: an order's times are those of all jobs. Conditions: none. -/
import Derived.Test.YtpaoiaogcckibaaDoorFlowB
namespace Go.Proofs.YtpaoiaogcckibaaDoor
open Go.RowKit
theorem sa_perm {l m : List (Int × Int)} (h : l.Perm m) : sa l = sa m := by
  induction h with
  | nil => rfl
  | cons x _ ih => simp only [sa, ih]
  | swap x y l => simp only [sa]; omega
  | trans _ _ a b => exact a.trans b
theorem sb_perm {l m : List (Int × Int)} (h : l.Perm m) : sb l = sb m := by
  induction h with
  | nil => rfl
  | cons x _ ih => simp only [sb, ih]
  | swap x y l => simp only [sb]; omega
  | trans _ _ a b => exact a.trans b
theorem pat_at (l : List (Int × Int)) (o : List Int) : pat l o = at_ l o := by
  unfold pat at_
  exact List.map_congr_left fun i _ => by rw [List.getElem!_eq_getElem?_getD]; simp [List.getD]; rfl
theorem pat_perm {l : List (Int × Int)} {o : List Int} (h : IsOrd l.length o) : (pat l o).Perm l := by rw [pat_at]; exact at_perm l h
theorem flowErr_ok {l : List (Int × Int)} {o : List Int} (h : flowErr l o = 0) : pairErr l = 0 ∧ IsOrd l.length o := by
  unfold flowErr at h
  split at h
  · next e => exact ⟨e, (whole_iff _ _).1 h⟩
  · next e => exact absurd h e
theorem pos_of {l : List (Int × Int)} (h : pairErr l = 0) : Pos l := fun p hp => ⟨((pairErr_ok h).2 p hp).1.1, ((pairErr_ok h).2 p hp).2.1⟩
theorem pos_pat {l : List (Int × Int)} {o : List Int} (h : flowErr l o = 0) : Pos (pat l o) := fun p hp =>
  pos_of (flowErr_ok h).1 p ((pat_perm (flowErr_ok h).2).mem_iff.1 hp)
theorem flow_bounds {l : List (Int × Int)} {o : List Int} (h : flowErr l o = 0) : sa l ≤ done (pat l o) ∧ sb l ≤ done (pat l o) ∧ done (pat l o) ≤ sa l + sb l := by
  have := done_bounds _ (pos_pat h)
  rw [sa_perm (pat_perm (flowErr_ok h).2), sb_perm (pat_perm (flowErr_ok h).2)] at this
  omega
end Go.Proofs.YtpaoiaogcckibaaDoor
