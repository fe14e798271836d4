/- Plain: how moore.Pick's heap stands behind so many jobs. Conditions: none. -/
import Derived.Test.YtdiinphojjpadaaMooreP
import Derived.Test.YtdiinphojjpadaaTaken
import Derived.Test.YtdiinphojjpadaaDueB
import Derived.Test.YtdiinphojjpadaaDueC
namespace Go.Proofs.Ytdiinphojjpadaa
open Go.RowKit
/-- the jobs that a heap's things stand for -/
def idxs (ys : List Int) (zs : List Tk) : List Int := zs.map fun z => ys[z.place.toNat]!
def nowOf (zs : List Tk) : Int := (zs.map (·.time)).sum
structure PickI (l : List Job) (ys : List Int) (k : Nat) (zs : List Tk) : Prop where
  picks : Picks (jobAt l) ys k (idxs ys zs)
  times : ∀ z ∈ zs, z.time = (jobAt l ys[z.place.toNat]!).time ∧ 0 ≤ z.place ∧ z.place < k
theorem due_rising {l : List Job} {ys : List Int} (h : ys.Pairwise (Ahead (dueC l) id)) : ys.Pairwise fun a b => (jobAt l a).due ≤ (jobAt l b).due := h.imp fun h => by
  unfold Ahead dueC cmpI at h
  split at h
  · omega
  · split at h
    · omega
    · omega
theorem nowOf_sum {l : List Job} {ys : List Int} {zs : List Tk} (h : ∀ z ∈ zs, z.time = (jobAt l ys[z.place.toNat]!).time) : sumT ((idxs ys zs).map (jobAt l)) = nowOf zs := by
  induction zs with
  | nil => rfl
  | cons z zs ih =>
    have h1 := ih fun y hy => h y (by simp [hy])
    have h2 := h z (by simp)
    unfold idxs nowOf at *
    simp only [List.map_cons, sumT, List.sum_cons]
    omega
theorem nowOf_perm {a b : List Tk} (h : a.Perm b) : nowOf a = nowOf b := sum_perm _ h
theorem idxs_perm {ys : List Int} {a b : List Tk} (h : a.Perm b) : (idxs ys a).Perm (idxs ys b) := h.map _
section
variable {l : List Job} {ys : List Int} {k : Nat} {zs zs1 : List Tk}
theorem PickI.now (h : PickI l ys k zs) : sumT ((idxs ys zs).map (jobAt l)) = nowOf zs := nowOf_sum fun z hz => (h.times z hz).1
theorem PickI.len (h : PickI l ys k zs) (hk : k ≤ ys.length) : zs.length ≤ k := by
  have := len_le_of_sub _ _ h.picks.nodup h.picks.sub
  unfold idxs at this
  rw [List.length_map, List.length_take] at this
  omega
theorem jobs_ok {l : List Job} {ys : List Int} (hl : jobErr l = 0) (ho : IsOrd l.length ys) : ∀ i ∈ ys, (1 ≤ (jobAt l i).time ∧ (jobAt l i).time ≤ 1000) ∧ (0 ≤ (jobAt l i).due ∧ (jobAt l i).due ≤ 1000) := fun i hi => by
  have h1 := ho.2.1 i hi
  have h2 := (jobErr_ok hl).2 (jobAt l i) (by
    unfold jobAt List.getD
    rw [List.getElem?_eq_getElem (by omega)]
    exact List.getElem_mem _)
  exact ⟨h2.1, h2.2.1⟩
theorem PickI.start (hl : jobErr l = 0) (ho : IsOrd l.length ys) : PickI l ys 0 [] :=
  ⟨Picks.start fun i hi => (jobs_ok hl ho i hi).2.1, fun z hz => by simp at hz⟩
theorem take_due (hs : ys.Pairwise (Ahead (dueC l) id)) {y : Int} (hk : ys[k]? = some y) : (∀ i ∈ ys.take k, (jobAt l i).due ≤ (jobAt l y).due) ∧ ∀ q, k ≤ q → q < ys.length → (jobAt l y).due ≤ (jobAt l ys[q]!).due := by
  have h := due_rising hs
  have hlt : k < ys.length := (List.getElem?_eq_some_iff.1 hk).1
  have hy : ys[k] = y := (List.getElem?_eq_some_iff.1 hk).2
  rw [List.pairwise_iff_getElem] at h
  constructor
  · intro i hi
    obtain ⟨j, hj, rfl⟩ := List.mem_take_iff_getElem.1 hi
    have := h j k (by omega) hlt (by omega)
    rw [hy] at this; exact this
  · intro q h1 h2
    rw [List.getElem!_eq_getElem?_getD, List.getElem?_eq_getElem h2]
    by_cases e : k = q
    · subst e; rw [hy]; exact Int.le_refl _
    · have := h k q hlt h2 (by omega)
      rw [hy] at this; exact this
theorem times_add (h : ∀ z ∈ zs, z.time = (jobAt l ys[z.place.toNat]!).time ∧ 0 ≤ z.place ∧ z.place < k) {y : Int} (hk : ys[k]? = some y) {x : Tk} (hx : x = ⟨(jobAt l y).time, k⟩) : ∀ z ∈ x :: zs, z.time = (jobAt l ys[z.place.toNat]!).time ∧ 0 ≤ z.place ∧ z.place < (k + 1 : Nat) := by
  intro z hz
  rcases List.mem_cons.1 hz with rfl | hz
  · subst hx
    simp only [Int.toNat_natCast]
    rw [List.getElem!_eq_getElem?_getD, hk]
    exact ⟨rfl, by omega, by omega⟩
  · have := h z hz
    exact ⟨this.1, this.2.1, by omega⟩
theorem idxs_add {y : Int} (hk : ys[k]? = some y) {T : Int} (hp : zs1.Perm (⟨T, k⟩ :: zs)) : (idxs ys zs ++ [y]).Perm (idxs ys zs1) := by
  have h1 : (idxs ys (⟨T, (k : Int)⟩ :: zs)) = y :: idxs ys zs := by
    unfold idxs
    simp only [List.map_cons, Int.toNat_natCast]
    rw [List.getElem!_eq_getElem?_getD, hk]; rfl
  have h2 := idxs_perm (ys := ys) hp
  rw [h1] at h2
  exact (List.perm_append_singleton _ _).trans h2.symm
theorem PickI.add (h : PickI l ys k zs) (hl : jobErr l = 0) (ho : IsOrd l.length ys) (hs : ys.Pairwise (Ahead (dueC l) id)) {y : Int} (hk : ys[k]? = some y) (hp : zs1.Perm (⟨(jobAt l y).time, k⟩ :: zs)) (hd : nowOf zs1 ≤ (jobAt l y).due) : PickI l ys (k + 1) zs1 := by
  obtain ⟨d1, d2⟩ := take_due hs hk
  have hn : nowOf zs1 = (jobAt l y).time + nowOf zs := by rw [nowOf_perm hp]; simp [nowOf]
  refine ⟨(h.picks.add hk ho.2.2 d1 d2 (fun i hi => by have := (jobs_ok hl ho i hi).1; omega) (by rw [h.now]; omega)).perm (idxs_add hk hp), fun z hz => times_add h.times hk rfl z (hp.mem_iff.1 hz)⟩
theorem PickI.drop (h : PickI l ys k zs) (hl : jobErr l = 0) (ho : IsOrd l.length ys) (hs : ys.Pairwise (Ahead (dueC l) id)) {y : Int} (hk : ys[k]? = some y) (hp : zs1.Perm (⟨(jobAt l y).time, k⟩ :: zs)) (hd : (jobAt l y).due < nowOf zs1)
    {x : Tk} {zs2 : List Tk} (hq : (x :: zs2).Perm zs1) (hx : ∀ z ∈ zs2, laterB z x = false) : PickI l ys (k + 1) zs2 := by
  obtain ⟨d1, d2⟩ := take_due hs hk
  have hn : nowOf zs1 = (jobAt l y).time + nowOf zs := by rw [nowOf_perm hp]; simp [nowOf]
  have ht := fun z (hz : z ∈ zs1) => times_add h.times hk rfl z (hp.mem_iff.1 hz)
  have hxm : x ∈ zs1 := hq.mem_iff.1 (by simp)
  have hpx : (idxs ys zs ++ [y]).Perm (ys[x.place.toNat]! :: idxs ys zs2) := (idxs_add hk hp).trans (idxs_perm hq.symm)
  refine ⟨h.picks.drop hk ho.2.2 d1 d2 (fun i hi => by have := (jobs_ok hl ho i hi).1; omega) (by rw [h.now]; omega) hpx (fun i hi => ?_), fun z hz => ht z (hq.mem_iff.1 (by simp [hz]))⟩
  have h3 := hpx.mem_iff.1 hi
  rcases List.mem_cons.1 h3 with rfl | h3
  · exact Int.le_refl _
  · unfold idxs at h3
    obtain ⟨z, hz, rfl⟩ := List.mem_map.1 h3
    have h4 := not_later (hx z hz)
    rw [(ht z (hq.mem_iff.1 (by simp [hz]))).1, (ht x hxm).1] at h4
    exact h4
end
end Go.Proofs.Ytdiinphojjpadaa
