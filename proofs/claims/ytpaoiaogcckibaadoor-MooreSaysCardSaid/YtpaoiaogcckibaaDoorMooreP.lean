/- Plain: jobs in time: which can all be, and those that are picked (Moore, Hodgson). Conditions: times are not below 0. -/
import Derived.Test.YtpaoiaogcckibaaDoorJobsPlain
import Derived.Test.YtpaoiaogcckibaaDoorPerm
namespace Go.Proofs.YtpaoiaogcckibaaDoor
/-- all Time of the jobs that are due by D -/
def loadJ (js : List Job) (D : Int) : Int := sumT (js.filter fun j => decide (j.due ≤ D))
/-- can all be in time? -/
def FeasJ (js : List Job) : Prop := ∀ j ∈ js, loadJ js j.due ≤ j.due
def Long0 (js : List Job) : Prop := ∀ j ∈ js, 0 ≤ j.time
theorem sumT_perm {a b : List Job} (h : a.Perm b) : sumT a = sumT b := by
  induction h with
  | nil => rfl
  | cons x _ ih => simp only [sumT, ih]
  | swap x y l => simp only [sumT]; omega
  | trans _ _ ih1 ih2 => exact ih1.trans ih2
theorem loadJ_perm {a b : List Job} (h : a.Perm b) (D : Int) : loadJ a D = loadJ b D := sumT_perm (h.filter _)
theorem FeasJ.perm {a b : List Job} (h : FeasJ a) (hp : a.Perm b) : FeasJ b := fun j hj => by
  rw [← loadJ_perm hp]; exact h j (hp.mem_iff.2 hj)
theorem sumT_pos {a : List Job} (h : Long0 a) : 0 ≤ sumT a := by
  induction a with
  | nil => exact Int.le_refl _
  | cons j a ih =>
    have h1 := h j (by simp)
    have h2 := ih fun x hx => h x (by simp [hx])
    simp only [sumT]; omega
theorem Long0.filter {a : List Job} (h : Long0 a) (p : Job → Bool) : Long0 (a.filter p) := fun j hj => h j (List.mem_filter.1 hj).1
theorem loadJ_pos {a : List Job} (h : Long0 a) (D : Int) : 0 ≤ loadJ a D := sumT_pos (h.filter _)
theorem loadJ_append (a b : List Job) (D : Int) : loadJ (a ++ b) D = loadJ a D + loadJ b D := by
  unfold loadJ; rw [List.filter_append, sumT_append]
theorem loadJ_cons (x : Job) (a : List Job) (D : Int) : loadJ (x :: a) D = (if x.due ≤ D then x.time else 0) + loadJ a D := by
  unfold loadJ
  by_cases h : x.due ≤ D
  · rw [List.filter_cons_of_pos (by simpa using h), if_pos h]; rfl
  · rw [List.filter_cons_of_neg (by simpa using h), if_neg h]; omega
theorem loadJ_le {a : List Job} (h : Long0 a) (D : Int) : loadJ a D ≤ sumT a := by
  induction a with
  | nil => exact Int.le_refl _
  | cons j a ih =>
    have h1 := h j (by simp)
    have h2 := ih fun x hx => h x (by simp [hx])
    rw [loadJ_cons]
    simp only [sumT]; split <;> omega
theorem loadJ_all {a : List Job} {D : Int} (h : ∀ j ∈ a, j.due ≤ D) : loadJ a D = sumT a := by
  unfold loadJ
  rw [List.filter_eq_self.2 fun j hj => by simpa using h j hj]
theorem FeasJ.left {a b : List Job} (h : FeasJ (a ++ b)) (hb : Long0 b) : FeasJ a := fun j hj => by
  have h1 := h j (by simp [hj])
  have h2 := loadJ_pos hb j.due
  rw [loadJ_append] at h1; omega
/-- the latest of an order by Due is not late just if all can be in time -/
theorem late_feas : ∀ (s : List Job) (now w : Int), s.Pairwise (fun a b => a.due ≤ b.due) → Long0 s →
    (lateFrom now w s ≤ 0 ↔ w ≤ 0 ∧ ∀ j ∈ s, now + loadJ s j.due ≤ j.due) := by
  intro s
  induction s with
  | nil => intro now w _ _; simp [lateFrom]
  | cons x s ih =>
    intro now w hs hl
    have h1 := List.pairwise_cons.1 hs
    have hl' : Long0 s := fun j hj => hl j (by simp [hj])
    have hx := hl x (by simp)
    rw [lateFrom, ih _ _ h1.2 hl']
    constructor
    · rintro ⟨h2, h3⟩
      refine ⟨by omega, fun j hj => ?_⟩
      rcases List.mem_cons.1 hj with rfl | hj
      · rw [loadJ_cons, if_pos (Int.le_refl _)]
        rcases Classical.em (∃ y ∈ s, y.due ≤ j.due) with ⟨y, hy, hyd⟩ | hn
        · have h4 := h3 y hy
          have h5 := h1.1 y hy
          rw [show y.due = j.due by omega] at h4
          omega
        · have : loadJ s j.due = 0 := by
            unfold loadJ
            rw [List.filter_eq_nil_iff.2 fun y hy => by simpa using fun hd => hn ⟨y, hy, hd⟩]; rfl
          omega
      · rw [loadJ_cons, if_pos (h1.1 j hj)]
        have := h3 j hj; omega
    · rintro ⟨h2, h3⟩
      have h4 := h3 x (by simp)
      rw [loadJ_cons, if_pos (Int.le_refl _)] at h4
      have h5 := loadJ_pos hl' x.due
      refine ⟨by omega, fun j hj => ?_⟩
      have h6 := h3 j (by simp [hj])
      rw [loadJ_cons, if_pos (h1.1 j hj)] at h6
      omega
theorem feas_of_late {s js : List Job} (hs : s.Pairwise (fun a b => a.due ≤ b.due)) (hp : s.Perm js) (hl : Long0 js) : lateFrom 0 (-1000) s ≤ 0 ↔ FeasJ js := by
  rw [late_feas s 0 (-1000) hs fun j hj => hl j (hp.mem_iff.1 hj)]
  constructor
  · rintro ⟨_, h⟩ j hj
    have := h j (hp.mem_iff.2 hj)
    rw [loadJ_perm hp] at this; omega
  · intro h
    refine ⟨by omega, fun j hj => ?_⟩
    have := h j (hp.mem_iff.1 hj)
    rw [loadJ_perm hp]; omega
theorem sub_split : ∀ {F S : List Int}, F.Nodup → (∀ i ∈ F, i ∈ S) → ∃ R, S.Perm (F ++ R) := by
  intro F
  induction F with
  | nil => intro S _ _; exact ⟨S, List.Perm.refl _⟩
  | cons x F ih =>
    intro S hn hs
    have hn' := List.nodup_cons.1 hn
    have hx : x ∈ S := hs x (by simp)
    obtain ⟨R, hR⟩ := ih (S := S.erase x) hn'.2 fun y hy => (List.mem_erase_of_ne (fun e => hn'.1 (by rw [← e]; exact hy))).2 (hs y (by simp [hy]))
    exact ⟨R, (List.perm_cons_erase hx).trans (hR.cons x)⟩
theorem Long0.map {J : Int → Job} {S : List Int} (h : ∀ i ∈ S, 0 ≤ (J i).time) : Long0 (S.map J) := fun j hj => by
  obtain ⟨i, hi, rfl⟩ := List.mem_map.1 hj; exact h i hi
theorem feas_sub {J : Int → Job} {F S : List Int} (hn : F.Nodup) (hs : ∀ i ∈ F, i ∈ S) (hf : FeasJ (S.map J)) (hl : ∀ i ∈ S, 0 ≤ (J i).time) : FeasJ (F.map J) := by
  obtain ⟨R, hR⟩ := sub_split hn hs
  have h1 := hf.perm (hR.map J)
  rw [List.map_append] at h1
  exact h1.left (Long0.map fun i hi => hl i (hR.mem_iff.2 (by simp [hi])))
/-- how the picking stands after k jobs of the order ys -/
structure Picks (J : Int → Job) (ys : List Int) (k : Nat) (S : List Int) : Prop where
  nodup : S.Nodup
  sub : ∀ i ∈ S, i ∈ ys.take k
  feas : FeasJ (S.map J)
  low : ∀ q, k ≤ q → q < ys.length → sumT (S.map J) ≤ (J ys[q]!).due
  best : ∀ F : List Int, F.Nodup → (∀ i ∈ F, i ∈ ys.take k) → FeasJ (F.map J) → ∃ G : List Int, G.Nodup ∧ (∀ i ∈ G, i ∈ S) ∧ G.length = F.length ∧ sumT (G.map J) ≤ sumT (F.map J)
theorem Picks.start {J : Int → Job} {ys : List Int} (h : ∀ i ∈ ys, 0 ≤ (J i).due) : Picks J ys 0 [] := by
  refine ⟨List.nodup_nil, fun i hi => by simp at hi, fun j hj => by simp at hj, fun q _ hq => ?_, fun F _ hF _ => ?_⟩
  · exact h _ (by rw [List.getElem!_eq_getElem?_getD, List.getElem?_eq_getElem hq]; exact List.getElem_mem hq)
  · have : F = [] := List.eq_nil_iff_forall_not_mem.2 fun i hi => by have := hF i hi; simp at this
    subst this
    exact ⟨[], List.nodup_nil, fun _ h => h, rfl, Int.le_refl _⟩
theorem Picks.perm {J : Int → Job} {ys S S' : List Int} {k : Nat} (h : Picks J ys k S) (hp : S.Perm S') : Picks J ys k S' := by
  refine ⟨hp.nodup_iff.1 h.nodup, fun i hi => h.sub i (hp.mem_iff.2 hi), h.feas.perm (hp.map J), fun q h1 h2 => ?_, fun F h1 h2 h3 => ?_⟩
  · rw [← sumT_perm (hp.map J)]; exact h.low q h1 h2
  · obtain ⟨G, g1, g2, g3⟩ := h.best F h1 h2 h3
    exact ⟨G, g1, fun i hi => hp.mem_iff.1 (g2 i hi), g3⟩
theorem sumT_snoc (J : Int → Job) (S : List Int) (x : Int) : sumT ((S ++ [x]).map J) = sumT (S.map J) + (J x).time := by
  rw [List.map_append, sumT_append]; simp [sumT]
section
variable {J : Int → Job} {ys S : List Int} {k : Nat} {y : Int}
/-- of sets within one job more: that job, or it is none of them -/
theorem F_split (hk : ys[k]? = some y) {F : List Int} (hn : F.Nodup) (hF : ∀ i ∈ F, i ∈ ys.take (k + 1)) :
    (∀ i ∈ F, i ∈ ys.take k) ∨ (y ∈ F ∧ ∃ F0 : List Int, F.Perm (y :: F0) ∧ F0.Nodup ∧ y ∉ F0 ∧ ∀ i ∈ F0, i ∈ ys.take k) := by
  rw [List.take_add_one, hk] at hF
  by_cases hy : y ∈ F
  · right
    have hp := List.perm_cons_erase hy
    have hn2 := List.nodup_cons.1 (hp.nodup_iff.1 hn)
    refine ⟨hy, F.erase y, hp, hn2.2, hn2.1, fun i hi => ?_⟩
    have h1 := hF i (List.mem_of_mem_erase hi)
    rcases List.mem_append.1 h1 with h1 | h1
    · exact h1
    · simp at h1; subst h1; exact absurd hi hn2.1
  · left
    intro i hi
    rcases List.mem_append.1 (hF i hi) with h1 | h1
    · exact h1
    · simp at h1; subst h1; exact absurd hi hy
theorem Picks.next (h : Picks J ys k S) (hk : ys[k]? = some y) (hn : ys.Nodup) : y ∉ S := fun hm => by
  have h1 := h.sub y hm
  obtain ⟨j, hj, hjy⟩ := List.mem_take_iff_getElem.1 h1
  have hlt : k < ys.length := (List.getElem?_eq_some_iff.1 hk).1
  have e2 : ys[k] = y := (List.getElem?_eq_some_iff.1 hk).2
  have := (List.getElem_inj (xs := ys) (i := j) (j := k) (h₀ := by omega) (h₁ := hlt) hn).1 (by rw [e2]; exact hjy)
  omega
theorem Picks.add (h : Picks J ys k S) (hk : ys[k]? = some y) (hn : ys.Nodup) (hd : ∀ i ∈ ys.take k, (J i).due ≤ (J y).due) (hd2 : ∀ q, k ≤ q → q < ys.length → (J y).due ≤ (J ys[q]!).due) (ht : ∀ i ∈ ys, 0 ≤ (J i).time)
    (hs : sumT (S.map J) + (J y).time ≤ (J y).due) : Picks J ys (k + 1) (S ++ [y]) := by
  have hyS := h.next hk hn
  have hlt : k < ys.length := (List.getElem?_eq_some_iff.1 hk).1
  have hSy : ∀ i ∈ S, i ∈ ys := fun i hi => List.mem_of_mem_take (h.sub i hi)
  have hyy : y ∈ ys := List.mem_of_getElem? hk
  have hL : Long0 ((S ++ [y]).map J) := Long0.map fun i hi => by
    rcases List.mem_append.1 hi with hi | hi
    · exact ht i (hSy i hi)
    · simp at hi; subst hi; exact ht i hyy
  have hmax : ∀ i ∈ S ++ [y], (J i).due ≤ (J y).due := fun i hi => by
    rcases List.mem_append.1 hi with hi | hi
    · exact hd i (h.sub i hi)
    · simp at hi; subst hi; exact Int.le_refl _
  refine ⟨?_, fun i hi => ?_, ?_, fun q h1 h2 => ?_, fun F f1 f2 f3 => ?_⟩
  · rw [List.nodup_append]
    exact ⟨h.nodup, by simp, fun a ha b hb => by simp at hb; subst hb; exact fun e => hyS (e ▸ ha)⟩
  · rw [List.take_add_one, hk]
    rcases List.mem_append.1 hi with hi | hi
    · exact List.mem_append.2 (Or.inl (h.sub i hi))
    · exact List.mem_append.2 (Or.inr (by simpa using hi))
  · intro j hj
    obtain ⟨i, hi, rfl⟩ := List.mem_map.1 hj
    by_cases he : (J y).due ≤ (J i).due
    · have e1 : (J i).due = (J y).due := by have := hmax i hi; omega
      rw [loadJ_all (D := (J i).due) fun j hj => by obtain ⟨z, hz, rfl⟩ := List.mem_map.1 hj; have := hmax z hz; omega, sumT_snoc]
      omega
    · have hiS : i ∈ S := by
        rcases List.mem_append.1 hi with hi | hi
        · exact hi
        · simp at hi; subst hi; omega
      rw [List.map_append, loadJ_append]
      have e2 : loadJ ([y].map J) (J i).due = 0 := by simp only [List.map_cons, List.map_nil]; rw [loadJ_cons, if_neg he]; rfl
      have := h.feas (J i) (List.mem_map.2 ⟨i, hiS, rfl⟩)
      omega
  · rw [sumT_snoc]
    have := hd2 q (by omega) h2
    omega
  · rcases F_split hk f1 f2 with f4 | ⟨f4, F0, f5, f6, f7, f8⟩
    · obtain ⟨G, g1, g2, g3⟩ := h.best F f1 f4 f3
      exact ⟨G, g1, fun i hi => List.mem_append.2 (Or.inl (g2 i hi)), g3⟩
    · have f9 := f3.perm (f5.map J)
      have f10 : FeasJ (F0.map J) := by
        have : FeasJ (F0.map J ++ [J y]) := f9.perm (by simpa using (List.perm_append_singleton (J y) (F0.map J)).symm)
        exact this.left fun j hj => by simp at hj; subst hj; exact ht y hyy
      obtain ⟨G, g1, g2, g3, g4⟩ := h.best F0 f6 f8 f10
      refine ⟨G ++ [y], ?_, fun i hi => ?_, ?_, ?_⟩
      · rw [List.nodup_append]
        exact ⟨g1, by simp, fun a ha b hb => by simp at hb; subst hb; exact fun e => hyS (e ▸ g2 a ha)⟩
      · rcases List.mem_append.1 hi with hi | hi
        · exact List.mem_append.2 (Or.inl (g2 i hi))
        · exact List.mem_append.2 (Or.inr hi)
      · rw [f5.length_eq]; simp [g3]
      · rw [sumT_snoc, sumT_perm (f5.map J)]; simp only [List.map_cons, sumT]; omega
theorem Picks.drop {x : Int} {S' : List Int} (h : Picks J ys k S) (hk : ys[k]? = some y) (hn : ys.Nodup) (hd : ∀ i ∈ ys.take k, (J i).due ≤ (J y).due) (hd2 : ∀ q, k ≤ q → q < ys.length → (J y).due ≤ (J ys[q]!).due) (ht : ∀ i ∈ ys, 0 ≤ (J i).time)
    (hs : (J y).due < sumT (S.map J) + (J y).time) (hp : (S ++ [y]).Perm (x :: S')) (hx : ∀ i ∈ S ++ [y], (J i).time ≤ (J x).time) : Picks J ys (k + 1) S' := by
  have hyS := h.next hk hn
  have hlt : k < ys.length := (List.getElem?_eq_some_iff.1 hk).1
  have hSy : ∀ i ∈ S, i ∈ ys := fun i hi => List.mem_of_mem_take (h.sub i hi)
  have hyy : y ∈ ys := List.mem_of_getElem? hk
  have hNy : (S ++ [y]).Nodup := by
    rw [List.nodup_append]
    exact ⟨h.nodup, by simp, fun a ha b hb => by simp at hb; subst hb; exact fun e => hyS (e ▸ ha)⟩
  have hN' := List.nodup_cons.1 (hp.nodup_iff.1 hNy)
  have hxm : x ∈ S ++ [y] := hp.mem_iff.2 (by simp)
  have hS' : ∀ i ∈ S', i ∈ S ++ [y] := fun i hi => hp.mem_iff.2 (by simp [hi])
  have hyAll : ∀ i ∈ S ++ [y], i ∈ ys := fun i hi => by
    rcases List.mem_append.1 hi with hi | hi
    · exact hSy i hi
    · simp at hi; subst hi; exact hyy
  have hmax : ∀ i ∈ S ++ [y], (J i).due ≤ (J y).due := fun i hi => by
    rcases List.mem_append.1 hi with hi | hi
    · exact hd i (h.sub i hi)
    · simp at hi; subst hi; exact Int.le_refl _
  have hsum : sumT (S.map J) + (J y).time = (J x).time + sumT (S'.map J) := by
    rw [← sumT_snoc, sumT_perm (hp.map J)]; rfl
  have hyx := hx y (by simp)
  have hlow : sumT (S.map J) ≤ (J y).due := by
    have := h.low k (Nat.le_refl _) hlt
    rw [List.getElem!_eq_getElem?_getD, hk] at this; exact this
  have hL0 : Long0 ((S ++ [y]).map J) := Long0.map fun i hi => ht i (hyAll i hi)
  refine ⟨hN'.2, fun i hi => ?_, ?_, fun q h1 h2 => ?_, fun F f1 f2 f3 => ?_⟩
  · rw [List.take_add_one, hk]
    rcases List.mem_append.1 (hS' i hi) with hi | hi
    · exact List.mem_append.2 (Or.inl (h.sub i hi))
    · exact List.mem_append.2 (Or.inr (by simpa using hi))
  · intro j hj
    obtain ⟨i, hi, rfl⟩ := List.mem_map.1 hj
    by_cases he : (J y).due ≤ (J i).due
    · have e1 : (J i).due = (J y).due := by have := hmax i (hS' i hi); omega
      rw [loadJ_all (D := (J i).due) fun j hj => by obtain ⟨z, hz, rfl⟩ := List.mem_map.1 hj; have := hmax z (hS' z hz); omega]
      omega
    · have hiS : i ∈ S := by
        rcases List.mem_append.1 (hS' i hi) with hi | hi
        · exact hi
        · simp at hi; subst hi; omega
      have e2 : loadJ ((S ++ [y]).map J) (J i).due = loadJ (S.map J) (J i).due := by
        rw [List.map_append, loadJ_append]
        have e2 : loadJ ([y].map J) (J i).due = 0 := by simp only [List.map_cons, List.map_nil]; rw [loadJ_cons, if_neg he]; rfl
        omega
      rw [loadJ_perm (hp.map J), List.map_cons, loadJ_cons] at e2
      have h3 := h.feas (J i) (List.mem_map.2 ⟨i, hiS, rfl⟩)
      have h4 := ht x (hyAll x hxm)
      split at e2 <;> omega
  · have := hd2 q (by omega) h2
    omega
  · -- a set as long, of those with the new one, no longer
    have key : ∃ G : List Int, G.Nodup ∧ (∀ i ∈ G, i ∈ S ++ [y]) ∧ G.length = F.length ∧ sumT (G.map J) ≤ sumT (F.map J) ∧ (y ∈ F ∨ y ∉ G) := by
      rcases F_split hk f1 f2 with f4 | ⟨f4, F0, f5, f6, f7, f8⟩
      · obtain ⟨G, g1, g2, g3, g4⟩ := h.best F f1 f4 f3
        exact ⟨G, g1, fun i hi => List.mem_append.2 (Or.inl (g2 i hi)), g3, g4, Or.inr fun hm => hyS (g2 y hm)⟩
      · have f9 := f3.perm (f5.map J)
        have f10 : FeasJ (F0.map J) := by
          have : FeasJ (F0.map J ++ [J y]) := f9.perm (by simpa using (List.perm_append_singleton (J y) (F0.map J)).symm)
          exact this.left fun j hj => by simp at hj; subst hj; exact ht y hyy
        obtain ⟨G, g1, g2, g3, g4⟩ := h.best F0 f6 f8 f10
        refine ⟨G ++ [y], ?_, fun i hi => ?_, ?_, ?_, Or.inl f4⟩
        · rw [List.nodup_append]
          exact ⟨g1, by simp, fun a ha b hb => by simp at hb; subst hb; exact fun e => hyS (e ▸ g2 a ha)⟩
        · rcases List.mem_append.1 hi with hi | hi
          · exact List.mem_append.2 (Or.inl (g2 i hi))
          · exact List.mem_append.2 (Or.inr hi)
        · rw [f5.length_eq]; simp [g3]
        · rw [sumT_snoc, sumT_perm (f5.map J)]; simp only [List.map_cons, sumT]; omega
    obtain ⟨G, g1, g2, g3, g4, g5⟩ := key
    by_cases hxG : x ∈ G
    · -- one that is not in G takes its place
      rcases Classical.em (∃ z ∈ S ++ [y], z ∉ G) with ⟨z, hz, hzG⟩ | hno
      · have hpG := List.perm_cons_erase hxG
        have hnG := List.nodup_cons.1 (hpG.nodup_iff.1 g1)
        have hzx : z ≠ x := fun e => hzG (e ▸ hxG)
        have hsG : sumT (G.map J) = (J x).time + sumT ((G.erase x).map J) := by rw [sumT_perm (hpG.map J)]; rfl
        have hzt := hx z hz
        refine ⟨G.erase x ++ [z], ?_, fun i hi => ?_, ?_, ?_⟩
        · rw [List.nodup_append]
          exact ⟨hnG.2, by simp, fun a ha b hb => by simp at hb; subst hb; exact fun e => hzG (e ▸ List.mem_of_mem_erase ha)⟩
        · rcases List.mem_append.1 hi with hi | hi
          · have h1 := hp.mem_iff.1 (g2 i (List.mem_of_mem_erase hi))
            rcases List.mem_cons.1 h1 with e | h1
            · subst e; exact absurd hi hnG.1
            · exact h1
          · simp at hi
            subst hi
            rcases List.mem_cons.1 (hp.mem_iff.1 hz) with e | h1
            · exact absurd e hzx
            · exact h1
        · have := hpG.length_eq; simp at this ⊢; omega
        · rw [sumT_snoc]; omega
      · -- then G is all of them, and too long
        exfalso
        have hall : ∀ i ∈ S ++ [y], i ∈ G := fun i hi => Classical.byContradiction fun hc => hno ⟨i, hi, hc⟩
        obtain ⟨R, hR⟩ := sub_split hNy hall
        have e1 : sumT (G.map J) = sumT ((S ++ [y]).map J) + sumT (R.map J) := by rw [sumT_perm (hR.map J), List.map_append, sumT_append]
        have e2 : 0 ≤ sumT (R.map J) := sumT_pos (Long0.map fun i hi => ht i (hyAll i (g2 i (hR.mem_iff.2 (List.mem_append.2 (Or.inr hi))))))
        rw [sumT_snoc] at e1
        have hyF : y ∈ F := by
          rcases g5 with g5 | g5
          · exact g5
          · exact absurd (hall y (by simp)) g5
        have h3 := f3 (J y) (List.mem_map.2 ⟨y, hyF, rfl⟩)
        have e3 : loadJ (F.map J) (J y).due = sumT (F.map J) := loadJ_all fun j hj => by
          obtain ⟨i, hi, rfl⟩ := List.mem_map.1 hj
          have h4 := f2 i hi
          rw [List.take_add_one, hk] at h4
          rcases List.mem_append.1 h4 with h4 | h4
          · exact hd i h4
          · simp at h4; subst h4; exact Int.le_refl _
        omega
    · refine ⟨G, g1, fun i hi => ?_, g3, g4⟩
      rcases List.mem_cons.1 (hp.mem_iff.1 (g2 i hi)) with e | h1
      · subst e; exact absurd hi hxG
      · exact h1
/-- no other jobs in time are more -/
theorem Picks.most (h : Picks J ys ys.length S) {F : List Int} (hn : F.Nodup) (hF : ∀ i ∈ F, i ∈ ys) (hf : FeasJ (F.map J)) : F.length ≤ S.length := by
  obtain ⟨G, g1, g2, g3, _⟩ := h.best F hn (by rw [List.take_length]; exact hF) hf
  rw [← g3]
  exact len_le_of_sub G S g1 g2
/-- all are picked just if all can be in time -/
theorem Picks.all (h : Picks J ys ys.length S) (hn : ys.Nodup) (ht : ∀ i ∈ ys, 0 ≤ (J i).time) : S.length = ys.length ↔ FeasJ (ys.map J) := by
  have hsub : ∀ i ∈ S, i ∈ ys := fun i hi => List.mem_of_mem_take (h.sub i hi)
  have hle := len_le_of_sub S ys h.nodup hsub
  constructor
  · intro e
    obtain ⟨R, hR⟩ := sub_split h.nodup hsub
    have : R = [] := List.eq_nil_of_length_eq_zero (by have := hR.length_eq; simp at this; omega)
    subst this
    rw [List.append_nil] at hR
    exact h.feas.perm (hR.symm.map J)
  · intro hf
    have := h.most hn (fun i hi => hi) hf
    omega
end
end Go.Proofs.YtpaoiaogcckibaaDoor
