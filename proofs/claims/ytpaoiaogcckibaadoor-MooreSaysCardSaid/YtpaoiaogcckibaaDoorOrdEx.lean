/- Plain: jobs have an order by a weak comparison, equals in their order. Conditions: none. -/
import Derived.Test.YtpaoiaogcckibaaDoorRefByP
namespace Go.Proofs.YtpaoiaogcckibaaDoor
open Go.RowKit
/-- of any things left the first best -/
theorem sel_best {c : Int → Int → Int} (hw : Weak c) (ys : List Int) : ∀ i : Nat, ∃ v, SelB c ys i v := by
  intro i
  induction i with
  | zero => exact ⟨-1, SelB.start⟩
  | succ i ih =>
    obtain ⟨v, h⟩ := ih
    by_cases hy : (i : Int) ∈ ys
    · exact ⟨v, h.skip hy⟩
    · by_cases hv : v < 0
      · exact ⟨_, h.first hv hy⟩
      · obtain ⟨q, rfl, _, _⟩ := h.pos hv
        by_cases hc : c i q < 0
        · exact ⟨_, h.take hw hy hc⟩
        · exact ⟨_, h.stay hw hc⟩
theorem sel_all {c : Int → Int → Int} (hw : Weak c) (n : Nat) : ∀ k : Nat, k ≤ n → ∃ ys : List Int, ys.length = k ∧ SelI c n ys := by
  intro k
  induction k with
  | zero => intro _; exact ⟨[], rfl, SelI.start _ _⟩
  | succ k ih =>
    intro hk
    obtain ⟨ys, hl, hs⟩ := ih (by omega)
    obtain ⟨v, hb⟩ := sel_best hw ys n
    obtain ⟨q, _, _, _, h⟩ := hs.some (by omega) hb
    exact ⟨_, by rw [List.length_append, hl]; rfl, h⟩
theorem ord_ex {c : Int → Int → Int} (hw : Weak c) (n : Nat) : ∃ ys : List Int, IsOrd n ys ∧ ys.Pairwise (Ahead c id) := by
  obtain ⟨ys, hl, hs⟩ := sel_all hw n n (Nat.le_refl _)
  exact ⟨ys, ⟨hl, hs.rng, hs.nodup⟩, hs.ord⟩
theorem due_ord (l : List Job) : ∃ ys : List Int, IsOrd l.length ys ∧ ys.Pairwise (Ahead (dueC l) id) := ord_ex (weak_due l) _
theorem IsOrd.perm_of2 {n : Nat} {a b : List Int} (ha : IsOrd n a) (hb : IsOrd n b) : a.Perm b := ha.perm.trans hb.perm.symm
end Go.Proofs.YtpaoiaogcckibaaDoor
