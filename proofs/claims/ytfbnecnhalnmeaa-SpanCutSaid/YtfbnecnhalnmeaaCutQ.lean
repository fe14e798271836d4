/- Plain: the lightest of the first so many edges that cross a set. Conditions: none. -/
import Derived.Test.YtfbnecnhalnmeaaPrimP
namespace Go.Proofs.Ytfbnecnhalnmeaa
open Go.RowKit
theorem cut_law {N : Nat} {l : List Edge} (hg : graphErr N l = 0) (S : Nat → Bool) {q : Nat} (hq : q < l.length) (hc : S (eAt l q).a.toNat ≠ S (eAt l q).b.toNat) (hm : ∀ j : Nat, j < l.length → S (eAt l j).a.toNat ≠ S (eAt l j).b.toNat → ltB l j q = false) : inF N l (q : Int) = true := by
  have hm2 : (q : Int) ∈ kord l := (kord_ord l).full _ (by omega) (by omega)
  obtain ⟨p, hp, hpe⟩ := List.getElem_of_mem hm2
  have hp2 : (kord l)[p]? = some (q : Int) := by rw [List.getElem?_eq_getElem hp, hpe]
  refine (inF_forest N l).cut (kord_ends hg) S hp2 hc fun j hj => ?_
  obtain ⟨i, hi, hie⟩ := List.mem_take_iff_getElem.1 hj
  have hlt := kord_sorted l
  rw [List.pairwise_iff_getElem] at hlt
  have h4 := hlt i p (by omega) hp (by omega)
  rw [hie, hpe] at h4
  have hj2 := (kord_ord l).2.1 j (List.mem_of_mem_take hj)
  obtain ⟨jn, rfl⟩ : ∃ jn : Nat, j = jn := ⟨j.toNat, by omega⟩
  show S (eAt l jn).a.toNat = S (eAt l jn).b.toNat
  apply Classical.byContradiction
  intro hne
  unfold Lt2 at h4
  have h5 := hm jn (by omega) hne
  simp only [ltB, decide_eq_false_iff_not] at h5
  omega
end Go.Proofs.Ytfbnecnhalnmeaa
namespace Go.Proofs.Ytfbnecnhalnmeaa
open Go.RowKit
def crossB (S : List Bool) (l : List Edge) (j : Nat) : Bool := S.getD (eAt l j).a.toNat false != S.getD (eAt l j).b.toNat false
/-- best of the first i: none, or the lightest that crosses -/
def BestTo (S : List Bool) (l : List Edge) (i : Nat) (v : Int) : Prop :=
  (v = -1 ∧ ∀ j, j < i → crossB S l j = false) ∨ ∃ q : Nat, v = q ∧ q < i ∧ crossB S l q = true ∧ ∀ j : Nat, j < i → crossB S l j = true → ltB l j q = false
theorem BestTo.start (S : List Bool) (l : List Edge) : BestTo S l 0 (-1) := Or.inl ⟨rfl, fun j hj => by omega⟩
theorem BestTo.skip {S : List Bool} {l : List Edge} {i : Nat} {v : Int} (h : BestTo S l i v) (hc : crossB S l i = false) : BestTo S l (i + 1) v := by
  rcases h with ⟨rfl, h⟩ | ⟨q, rfl, hq, hcq, h⟩
  · refine Or.inl ⟨rfl, fun j hj => ?_⟩
    by_cases e : j = i
    · subst e; exact hc
    · exact h j (by omega)
  · refine Or.inr ⟨q, rfl, by omega, hcq, fun j hj hcj => ?_⟩
    by_cases e : j = i
    · subst e; rw [hc] at hcj; cases hcj
    · exact h j (by omega) hcj
theorem BestTo.first {S : List Bool} {l : List Edge} {i : Nat} {v : Int} (h : BestTo S l i v) (hv : v < 0) (hc : crossB S l i = true) : BestTo S l (i + 1) (i : Int) := by
  rcases h with ⟨rfl, h⟩ | ⟨q, rfl, hq, hcq, h⟩
  · refine Or.inr ⟨i, rfl, by omega, hc, fun j hj hcj => ?_⟩
    by_cases e : j = i
    · subst e; simp [ltB]
    · rw [h j (by omega)] at hcj; cases hcj
  · omega
theorem BestTo.take {S : List Bool} {l : List Edge} {i q : Nat} (h : BestTo S l i (q : Int)) (hc : crossB S l i = true) (hl : ltB l i q = true) : BestTo S l (i + 1) (i : Int) := by
  rcases h with ⟨h0, _⟩ | ⟨q', h0, hq, hcq, h⟩
  · omega
  · obtain rfl : q = q' := by omega
    refine Or.inr ⟨i, rfl, by omega, hc, fun j hj hcj => ?_⟩
    by_cases e : j = i
    · subst e; simp [ltB]
    · have h1 := h j (by omega) hcj
      unfold ltB at hl h1 ⊢
      simp only [decide_eq_true_eq, decide_eq_false_iff_not] at hl h1 ⊢
      omega
theorem BestTo.stay {S : List Bool} {l : List Edge} {i q : Nat} (h : BestTo S l i (q : Int)) (hl : ltB l i q = false) : BestTo S l (i + 1) (q : Int) := by
  rcases h with ⟨h0, _⟩ | ⟨q', h0, hq, hcq, h⟩
  · omega
  · obtain rfl : q = q' := by omega
    refine Or.inr ⟨q, rfl, by omega, hcq, fun j hj hcj => ?_⟩
    by_cases e : j = i
    · subst e; exact hl
    · exact h j (by omega) hcj
theorem BestTo.pos {S : List Bool} {l : List Edge} {i : Nat} {v : Int} (h : BestTo S l i v) (hv : ¬ v < 0) : ∃ q : Nat, v = q ∧ q < i := by
  rcases h with ⟨rfl, h⟩ | ⟨q, rfl, hq, hcq, h⟩
  · omega
  · exact ⟨q, rfl, hq⟩
theorem best_law {N : Nat} {l : List Edge} (hg : graphErr N l = 0) {S : List Bool} {v : Int} (h : BestTo S l l.length v) (hn : v ∉ forest N l) : decide (v < 0) = true := by
  rcases h with ⟨rfl, _⟩ | ⟨q, rfl, hq, hc, h⟩
  · rfl
  · refine absurd (mem_forest.2 ⟨by omega, cut_law hg (fun x => S.getD x false) hq (by simpa [crossB] using hc) fun j hj hcj => h j hj (by simpa [crossB] using hcj)⟩) hn
end Go.Proofs.Ytfbnecnhalnmeaa
