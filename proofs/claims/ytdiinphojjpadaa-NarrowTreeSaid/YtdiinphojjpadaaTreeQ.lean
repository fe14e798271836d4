/- Plain: narrow.Least answers alike of a graph and of its lightest forest. Conditions: the graph is one that may be. -/
import Derived.Test.YtdiinphojjpadaaTreeP
import Derived.Test.YtdiinphojjpadaaMostP
namespace Go.Proofs.Ytdiinphojjpadaa
theorem forest_len (N : Nat) (l : List Edge) : (forest N l).length ≤ l.length := by
  have := len_le_of_sub (forest N l) (upto l.length) (forest_nodup N l) fun i hi => (mem_upto _ _).2 (mem_forest.1 hi).1
  rwa [upto_len] at this
theorem tree_ok2 {N : Nat} {l : List Edge} (hg : graphErr N l = 0) : graphErr N (treeE N l) = 0 := tree_ok hg (forest_len N l)
theorem tree_ans {N : Nat} {l : List Edge} {a b v1 er1 v2 er2 : Int} (hg : graphErr N l = 0) (h1 : LeastAns N l a b v1 er1) (h2 : LeastAns N (treeE N l) a b v2 er2) : v1 = v2 ∧ er1 = er2 := by
  have hg2 := tree_ok2 hg
  have he : leastErr N (treeE N l) a b = leastErr N l a b := by
    unfold leastErr
    rw [if_pos hg, if_pos hg2]
  refine h1.uniq ?_
  unfold LeastAns at h2 ⊢
  rw [he, Int.toNat_natCast] at h2
  rw [Int.toNat_natCast]
  rcases h2 with h2 | ⟨h2, h3, h4⟩ | ⟨h2, h3, h4, h5⟩
  · exact Or.inl h2
  · exact Or.inr (Or.inl ⟨h2, h3, (tree_least hg).1 h4⟩)
  · exact Or.inr (Or.inr ⟨h2, h3, h4, fun m hm => h5 m ((tree_by hg m _ _).2 hm)⟩)
end Go.Proofs.Ytdiinphojjpadaa
