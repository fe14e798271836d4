/- Plain: an edge is in the forest just if the lighter edges of it do not join its ends. Conditions: the graph is one that may be. -/
import Derived.Test.YtdiinphojjpadaaPrimP
namespace Go.Proofs.Ytdiinphojjpadaa
/-- the lighter edges of the forest -/
noncomputable def lightF (N : Nat) (l : List Edge) (i : Int) : List Int := (forest N l).filter fun x => ltB l x i
theorem ltB_iff {l : List Edge} {i j : Int} : ltB l i j = true ↔ Lt2 l i j := by
  unfold ltB Lt2
  rw [decide_eq_true_iff]
theorem kord_before {l : List Edge} {k : Nat} {i x : Int} (hk : (kord l)[k]? = some i) (hx : x ∈ kord l) : x ∈ (kord l).take k ↔ Lt2 l x i := by
  have hs := kord_sorted l
  rw [List.pairwise_iff_getElem] at hs
  obtain ⟨hkl, hki⟩ := List.getElem?_eq_some_iff.1 hk
  constructor
  · intro h
    obtain ⟨j, hj, rfl⟩ := List.mem_take_iff_getElem.1 h
    have := hs j k (by omega) hkl (by omega)
    rw [hki] at this; exact this
  · intro h
    obtain ⟨j, hj, rfl⟩ := List.getElem_of_mem hx
    refine List.mem_take_iff_getElem.2 ⟨j, ?_, rfl⟩
    apply Classical.byContradiction
    intro hn
    have hjk : k ≤ j := by omega
    rcases Nat.lt_or_ge k j with h2 | h2
    · have := hs k j hkl hj h2
      rw [hki] at this
      unfold Lt2 at h this
      omega
    · have e : j = k := by omega
      subst e
      rw [hki] at h
      unfold Lt2 at h
      omega
theorem ring_law {N : Nat} {l : List Edge} (hg : graphErr N l = 0) {i : Int} (h0 : 0 ≤ i) (h1 : i < l.length) : Conn N ((lightF N l i).map (eOf l)) (eOf l i).1.toNat (eOf l i).2.toNat ↔ ¬ inF N l i = true := by
  have hm : i ∈ kord l := (kord_ord l).full i h0 h1
  obtain ⟨k, hkl, hki⟩ := List.getElem_of_mem hm
  have hk : (kord l)[k]? = some i := by rw [List.getElem?_eq_getElem hkl, hki]
  have hf := inF_forest N l k i hk
  rw [hf, Classical.not_not]
  constructor
  · intro h
    refine Tied.mono (l := lightF N l i) h fun j hj => ?_
    obtain ⟨h2, h3⟩ := List.mem_filter.1 hj
    obtain ⟨h4, _⟩ := mem_forest.1 h2
    exact (kord_before hk ((kord_ord l).full j h4.1 h4.2)).2 (ltB_iff.1 h3)
  · intro h
    have h2 := ((inF_forest N l).upto (kord_ends hg) k (by omega)).1 i h
    refine Tied.mono h2 fun j hj => ?_
    obtain ⟨h3, h4⟩ := List.mem_filter.1 hj
    have h5 := List.mem_of_mem_take h3
    have h6 := (kord_ord l).2.1 j h5
    exact List.mem_filter.2 ⟨mem_forest.2 ⟨h6, h4⟩, ltB_iff.2 ((kord_before hk h5).1 h3)⟩
end Go.Proofs.Ytdiinphojjpadaa
