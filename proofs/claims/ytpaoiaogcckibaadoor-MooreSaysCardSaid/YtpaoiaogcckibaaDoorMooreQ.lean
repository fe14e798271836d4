/- Plain: how moore.Pick's heap stands behind so many jobs. Conditions: none. -/
import Derived.Test.YtpaoiaogcckibaaDoorMooreP
import Derived.Test.YtpaoiaogcckibaaDoorTaken
import Derived.Test.YtpaoiaogcckibaaDoorDueB
import Derived.Test.YtpaoiaogcckibaaDoorDueC
namespace Go.Proofs.YtpaoiaogcckibaaDoor
open Go.RowKit
/-- the jobs that a heap's things stand for -/
def idxs (ys : List Int) (zs : List Tk) : List Int := zs.map fun z => ys[z.place.toNat]!
def nowOf (zs : List Tk) : Int := (zs.map (·.time)).sum
/-- the place of the longest of the first so many, the last one of equals -/
def longTo (l : List Job) (S : List Int) : Nat → Nat
  | 0 => 0
  | i + 1 => if (jobAt l S[longTo l S i]!).time ≤ (jobAt l S[i]!).time then i else longTo l S i
theorem longTo_is (l : List Job) (S : List Int) : ∀ n : Nat, 0 < n → longTo l S n < n ∧ (∀ i, i < n → (jobAt l S[i]!).time ≤ (jobAt l S[longTo l S n]!).time) ∧ ∀ i, longTo l S n < i → i < n → (jobAt l S[i]!).time < (jobAt l S[longTo l S n]!).time := by
  intro n
  induction n with
  | zero => intro h; omega
  | succ n ih =>
    intro _
    simp only [longTo]
    by_cases hn : n = 0
    · subst hn
      rw [if_pos (by simp only [longTo]; exact Int.le_refl _)]
      exact ⟨by omega, fun i hi => by have : i = 0 := by omega
                                      subst this; exact Int.le_refl _, fun i h1 h2 => by omega⟩
    · obtain ⟨h1, h2, h3⟩ := ih (by omega)
      split
      · next hle =>
        refine ⟨by omega, fun i hi => ?_, fun i h1 h2 => by omega⟩
        by_cases e : i = n
        · subst e; exact Int.le_refl _
        · have := h2 i (by omega); omega
      · next hle =>
        refine ⟨by omega, fun i hi => ?_, fun i h4 hi => ?_⟩
        · by_cases e : i = n
          · subst e; omega
          · exact h2 i (by omega)
        · by_cases e : i = n
          · subst e; omega
          · exact h3 i h4 (by omega)
/-- one job more; if it is late then, the longest goes -/
def mstep (l : List Job) (S : List Int) (y : Int) : List Int :=
  if (jobAt l y).due < sumT ((S ++ [y]).map (jobAt l)) then (S ++ [y]).eraseIdx (longTo l (S ++ [y]) (S ++ [y]).length) else S ++ [y]
def mooreS (l : List Job) (ys : List Int) : List Int := ys.foldl (mstep l) []
theorem mooreS_snoc (l : List Job) (ys : List Int) (y : Int) : mooreS l (ys ++ [y]) = mstep l (mooreS l ys) y := by unfold mooreS; rw [List.foldl_append]; rfl
theorem mstep_sub (l : List Job) (S : List Int) (y : Int) : (mstep l S y).Sublist (S ++ [y]) := by
  unfold mstep
  split
  · exact List.eraseIdx_sublist _ _
  · exact List.Sublist.refl _
theorem mooreS_subF (l : List Job) : ∀ (zs S B : List Int), S.Sublist B → (zs.foldl (mstep l) S).Sublist (B ++ zs) := by
  intro zs
  induction zs with
  | nil => intro S B h; simpa using h
  | cons y zs ih =>
    intro S B h
    have h1 : (mstep l S y).Sublist (B ++ [y]) := (mstep_sub l S y).trans (h.append (List.Sublist.refl _))
    have := ih _ _ h1
    simpa using this
theorem mooreS_sub (l : List Job) (ys : List Int) : (mooreS l ys).Sublist ys := by
  have h := mooreS_subF l ys [] [] (List.Sublist.refl _)
  rwa [List.nil_append] at h
theorem idx_ofM {ys : List Int} (hn : ys.Nodup) {k : Nat} {i : Int} (h : ys[k]? = some i) : ys.idxOf i = k := by
  have hk : k < ys.length := (List.getElem?_eq_some_iff.1 h).1
  have hi : i ∈ ys := List.mem_of_getElem? h
  have h1 := List.idxOf_lt_length_of_mem hi
  have h2 : ys[ys.idxOf i] = i := List.getElem_idxOf h1
  exact (List.getElem_inj (xs := ys) (h₀ := h1) (h₁ := hk) hn).1 (by rw [h2, (List.getElem?_eq_some_iff.1 h).2])
theorem idx_rising {ys : List Int} (hn : ys.Nodup) : ys.Pairwise fun a b => ys.idxOf a < ys.idxOf b := by
  rw [List.pairwise_iff_getElem]
  intro i j hi hj hij
  rw [idx_ofM hn (List.getElem?_eq_getElem hi), idx_ofM hn (List.getElem?_eq_getElem hj)]
  exact hij
structure PickI (l : List Job) (ys : List Int) (k : Nat) (zs : List Tk) : Prop where
  picks : Picks (jobAt l) ys k (idxs ys zs)
  times : ∀ z ∈ zs, z.time = (jobAt l ys[z.place.toNat]!).time ∧ 0 ≤ z.place ∧ z.place < k
  same : (idxs ys zs).Perm (mooreS l (ys.take k))
theorem due_rising {l : List Job} {ys : List Int} (h : ys.Pairwise (Ahead (dueC l) id)) : ys.Pairwise fun a b => (jobAt l a).due ≤ (jobAt l b).due := h.imp fun h => by
  unfold Ahead dueC cmpI at h
  split at h
  · omega
  · split at h
    · omega
    · omega
theorem nowOf_sum {l : List Job} {ys : List Int} {zs : List Tk} (h : ∀ z ∈ zs, z.time = (jobAt l ys[z.place.toNat]!).time) : sumT ((idxs ys zs).map (jobAt l)) = nowOf zs := by
  induction zs with
  | nil => rfl
  | cons z zs ih =>
    have h1 := ih fun y hy => h y (by simp [hy])
    have h2 := h z (by simp)
    unfold idxs nowOf at *
    simp only [List.map_cons, sumT, List.sum_cons]
    omega
theorem nowOf_perm {a b : List Tk} (h : a.Perm b) : nowOf a = nowOf b := sum_perm _ h
theorem idxs_perm {ys : List Int} {a b : List Tk} (h : a.Perm b) : (idxs ys a).Perm (idxs ys b) := h.map _
section
variable {l : List Job} {ys : List Int} {k : Nat} {zs zs1 : List Tk}
theorem PickI.now (h : PickI l ys k zs) : sumT ((idxs ys zs).map (jobAt l)) = nowOf zs := nowOf_sum fun z hz => (h.times z hz).1
theorem PickI.len (h : PickI l ys k zs) (hk : k ≤ ys.length) : zs.length ≤ k := by
  have := len_le_of_sub _ _ h.picks.nodup h.picks.sub
  unfold idxs at this
  rw [List.length_map, List.length_take] at this
  omega
theorem jobs_ok {l : List Job} {ys : List Int} (hl : jobErr l = 0) (ho : IsOrd l.length ys) : ∀ i ∈ ys, (1 ≤ (jobAt l i).time ∧ (jobAt l i).time ≤ 1000) ∧ (0 ≤ (jobAt l i).due ∧ (jobAt l i).due ≤ 1000) := fun i hi => by
  have h1 := ho.2.1 i hi
  have h2 := (jobErr_ok hl).2 (jobAt l i) (by
    unfold jobAt List.getD
    rw [List.getElem?_eq_getElem (by omega)]
    exact List.getElem_mem _)
  exact ⟨h2.1, h2.2.1⟩
theorem PickI.start (hl : jobErr l = 0) (ho : IsOrd l.length ys) : PickI l ys 0 [] :=
  ⟨Picks.start fun i hi => (jobs_ok hl ho i hi).2.1, (fun z hz => by simp at hz), List.Perm.refl _⟩
theorem take_due (hs : ys.Pairwise (Ahead (dueC l) id)) {y : Int} (hk : ys[k]? = some y) : (∀ i ∈ ys.take k, (jobAt l i).due ≤ (jobAt l y).due) ∧ ∀ q, k ≤ q → q < ys.length → (jobAt l y).due ≤ (jobAt l ys[q]!).due := by
  have h := due_rising hs
  have hlt : k < ys.length := (List.getElem?_eq_some_iff.1 hk).1
  have hy : ys[k] = y := (List.getElem?_eq_some_iff.1 hk).2
  rw [List.pairwise_iff_getElem] at h
  constructor
  · intro i hi
    obtain ⟨j, hj, rfl⟩ := List.mem_take_iff_getElem.1 hi
    have := h j k (by omega) hlt (by omega)
    rw [hy] at this; exact this
  · intro q h1 h2
    rw [List.getElem!_eq_getElem?_getD, List.getElem?_eq_getElem h2]
    by_cases e : k = q
    · subst e; rw [hy]; exact Int.le_refl _
    · have := h k q hlt h2 (by omega)
      rw [hy] at this; exact this
theorem times_add (h : ∀ z ∈ zs, z.time = (jobAt l ys[z.place.toNat]!).time ∧ 0 ≤ z.place ∧ z.place < k) {y : Int} (hk : ys[k]? = some y) {x : Tk} (hx : x = ⟨(jobAt l y).time, k⟩) : ∀ z ∈ x :: zs, z.time = (jobAt l ys[z.place.toNat]!).time ∧ 0 ≤ z.place ∧ z.place < (k + 1 : Nat) := by
  intro z hz
  rcases List.mem_cons.1 hz with rfl | hz
  · subst hx
    simp only [Int.toNat_natCast]
    rw [List.getElem!_eq_getElem?_getD, hk]
    exact ⟨rfl, by omega, by omega⟩
  · have := h z hz
    exact ⟨this.1, this.2.1, by omega⟩
theorem idxs_add {y : Int} (hk : ys[k]? = some y) {T : Int} (hp : zs1.Perm (⟨T, k⟩ :: zs)) : (idxs ys zs ++ [y]).Perm (idxs ys zs1) := by
  have h1 : (idxs ys (⟨T, (k : Int)⟩ :: zs)) = y :: idxs ys zs := by
    unfold idxs
    simp only [List.map_cons, Int.toNat_natCast]
    rw [List.getElem!_eq_getElem?_getD, hk]; rfl
  have h2 := idxs_perm (ys := ys) hp
  rw [h1] at h2
  exact (List.perm_append_singleton _ _).trans h2.symm
theorem PickI.add (h : PickI l ys k zs) (hl : jobErr l = 0) (ho : IsOrd l.length ys) (hs : ys.Pairwise (Ahead (dueC l) id)) {y : Int} (hk : ys[k]? = some y) (hp : zs1.Perm (⟨(jobAt l y).time, k⟩ :: zs)) (hd : nowOf zs1 ≤ (jobAt l y).due) : PickI l ys (k + 1) zs1 := by
  obtain ⟨d1, d2⟩ := take_due hs hk
  have hn : nowOf zs1 = (jobAt l y).time + nowOf zs := by rw [nowOf_perm hp]; simp [nowOf]
  refine ⟨(h.picks.add hk ho.2.2 d1 d2 (fun i hi => by have := (jobs_ok hl ho i hi).1; omega) (by rw [h.now]; omega)).perm (idxs_add hk hp), fun z hz => times_add h.times hk rfl z (hp.mem_iff.1 hz), ?_⟩
  have e : (idxs ys zs1).Perm (mooreS l (ys.take k) ++ [y]) := (idxs_add hk hp).symm.trans (h.same.append_right _)
  rw [take_at hk, mooreS_snoc]
  unfold mstep
  have hsum : sumT ((mooreS l (ys.take k) ++ [y]).map (jobAt l)) = nowOf zs1 := by
    rw [← sumT_perm (e.map (jobAt l)), nowOf_sum fun z hz => (times_add h.times hk rfl z (hp.mem_iff.1 hz)).1]
  rw [if_neg (by rw [hsum]; omega)]
  exact e
/-- of the jobs that are had the heap's first one is the document's longest -/
theorem moore_same {y : Int} (hk : ys[k]? = some y) (hn : ys.Nodup) {x : Tk} {zs2 : List Tk} (hS : (mooreS l (ys.take k) ++ [y]).Perm (ys[x.place.toNat]! :: idxs ys zs2)) (hd : (jobAt l y).due < sumT ((mooreS l (ys.take k) ++ [y]).map (jobAt l)))
    (hx : x.time = (jobAt l ys[x.place.toNat]!).time ∧ 0 ≤ x.place ∧ x.place < (k + 1 : Nat)) (hz : ∀ z ∈ zs2, z.time = (jobAt l ys[z.place.toNat]!).time ∧ 0 ≤ z.place ∧ z.place < (k + 1 : Nat)) (hl : ∀ z ∈ zs2, laterB z x = false) :
    (idxs ys zs2).Perm (mooreS l (ys.take (k + 1))) := by
  have hkl : k < ys.length := (List.getElem?_eq_some_iff.1 hk).1
  rw [take_at hk, mooreS_snoc]
  unfold mstep
  rw [if_pos hd]
  have hsub : (mooreS l (ys.take k) ++ [y]).Sublist ys := by
    have h1 := (mooreS_sub l (ys.take k)).append (List.Sublist.refl [y])
    rw [← take_at hk] at h1
    exact h1.trans (List.take_sublist _ _)
  generalize hT : mooreS l (ys.take k) ++ [y] = T at hS hsub ⊢
  have hTn : T.Nodup := hsub.nodup hn
  have hTr := List.Pairwise.sublist hsub (idx_rising hn)
  have hpos : 0 < T.length := by have := hS.length_eq; simp at this; omega
  obtain ⟨j1, j2, j3⟩ := longTo_is l T T.length hpos
  generalize longTo l T T.length = j at j1 j2 j3 ⊢
  have hat : ∀ p : Int, 0 ≤ p → p < (k + 1 : Nat) → ys[p.toNat]? = some ys[p.toNat]! := fun p h0 h1 => by
    rw [getElem!_pos ys p.toNat (by omega), List.getElem?_eq_getElem (by omega)]
  have hvm : ys[x.place.toNat]! ∈ T := hS.mem_iff.2 (by simp)
  obtain ⟨j', hj', hje⟩ := List.getElem_of_mem hvm
  have e1 := getElem!_pos T j' hj'
  have e2 := getElem!_pos T j j1
  have t1 := j2 j' hj'
  rw [e1, hje] at t1
  have hjm : T[j] ∈ ys[x.place.toNat]! :: idxs ys zs2 := hS.mem_iff.1 (List.getElem_mem _)
  have key : T[j] = ys[x.place.toNat]! := by
    rcases List.mem_cons.1 hjm with h1 | h1
    · exact h1
    · exfalso
      unfold idxs at h1
      obtain ⟨z, hzm, hze⟩ := List.mem_map.1 h1
      have h2 := hz z hzm
      have h3 := hl z hzm
      simp only [laterB, decide_eq_false_iff_not] at h3
      rw [e2, ← hze, ← h2.1, ← hx.1] at t1
      have hjj : j' ≠ j := fun e => by
        subst e
        have h5 : (ys[x.place.toNat]! :: idxs ys zs2).Nodup := hS.nodup hTn
        have h6 := List.nodup_cons.1 h5
        exact h6.1 (by rw [← hje]; exact h1)
      have hlt : j' < j := by
        rcases Nat.lt_trichotomy j' j with h | h | h
        · exact h
        · exact absurd h hjj
        · have t2 := j3 j' h hj'
          rw [e1, hje, e2, ← hze, ← h2.1, ← hx.1] at t2
          omega
      have h7 := (List.pairwise_iff_getElem.1 hTr) j' j hj' j1 hlt
      rw [hje, ← hze, idx_ofM hn (hat x.place hx.2.1 hx.2.2), idx_ofM hn (hat z.place h2.2.1 h2.2.2)] at h7
      omega
  have hp2 : (T[j] :: T.eraseIdx j).Perm T := by
    rw [List.eraseIdx_eq_take_drop_succ]
    have h8 : T.take j ++ T[j] :: T.drop (j + 1) = T := by rw [← List.drop_eq_getElem_cons j1, List.take_append_drop]
    have h9 : (T[j] :: (T.take j ++ T.drop (j + 1))).Perm (T.take j ++ T[j] :: T.drop (j + 1)) := List.perm_middle.symm
    rwa [h8] at h9
  rw [key] at hp2
  exact ((hp2.trans hS).cons_inv).symm
theorem PickI.drop (h : PickI l ys k zs) (hl : jobErr l = 0) (ho : IsOrd l.length ys) (hs : ys.Pairwise (Ahead (dueC l) id)) {y : Int} (hk : ys[k]? = some y) (hp : zs1.Perm (⟨(jobAt l y).time, k⟩ :: zs)) (hd : (jobAt l y).due < nowOf zs1)
    {x : Tk} {zs2 : List Tk} (hq : (x :: zs2).Perm zs1) (hx : ∀ z ∈ zs2, laterB z x = false) : PickI l ys (k + 1) zs2 := by
  obtain ⟨d1, d2⟩ := take_due hs hk
  have hn : nowOf zs1 = (jobAt l y).time + nowOf zs := by rw [nowOf_perm hp]; simp [nowOf]
  have ht := fun z (hz : z ∈ zs1) => times_add h.times hk rfl z (hp.mem_iff.1 hz)
  have hxm : x ∈ zs1 := hq.mem_iff.1 (by simp)
  have hpx : (idxs ys zs ++ [y]).Perm (ys[x.place.toNat]! :: idxs ys zs2) := (idxs_add hk hp).trans (idxs_perm hq.symm)
  refine ⟨h.picks.drop hk ho.2.2 d1 d2 (fun i hi => by have := (jobs_ok hl ho i hi).1; omega) (by rw [h.now]; omega) hpx (fun i hi => ?_), fun z hz => ht z (hq.mem_iff.1 (by simp [hz])), ?same⟩
  case same =>
    have hS' : (mooreS l (ys.take k) ++ [y]).Perm (ys[x.place.toNat]! :: idxs ys zs2) := (h.same.append_right _).symm.trans hpx
    exact moore_same hk ho.2.2 hS' (by
      rw [sumT_perm ((h.same.append_right [y]).symm.map (jobAt l)), sumT_perm ((idxs_add hk hp).map (jobAt l)), nowOf_sum fun z hz => (ht z hz).1]; exact hd) (ht x hxm) (fun z hz => ht z (hq.mem_iff.1 (by simp [hz]))) hx
  have h3 := hpx.mem_iff.1 hi
  rcases List.mem_cons.1 h3 with rfl | h3
  · exact Int.le_refl _
  · unfold idxs at h3
    obtain ⟨z, hz, rfl⟩ := List.mem_map.1 h3
    have h4 := not_later (hx z hz)
    rw [(ht z (hq.mem_iff.1 (by simp [hz]))).1, (ht x hxm).1] at h4
    exact h4
end
end Go.Proofs.YtpaoiaogcckibaaDoor
