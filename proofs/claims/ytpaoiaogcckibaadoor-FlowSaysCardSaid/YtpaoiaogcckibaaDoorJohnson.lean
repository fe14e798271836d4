/- Plain: no order of jobs is done sooner than that of Johnson. Conditions: times are not below 0. -/
import Derived.Test.YtpaoiaogcckibaaDoorFlowPlain
namespace Go.Proofs.YtpaoiaogcckibaaDoor
def g (c : Int) (p : Int × Int) : Int := if c ≤ p.1 then p.2 else min p.1 p.2
def sg (c : Int) : List (Int × Int) → Int
  | [] => 0
  | p :: ps => g c p + sg c ps
theorem sg_append (c : Int) (a b : List (Int × Int)) : sg c (a ++ b) = sg c a + sg c b := by
  induction a with
  | nil => simp [sg]
  | cons p a ih => simp only [List.cons_append, sg, ih]; omega
theorem sg_perm (c : Int) {a b : List (Int × Int)} (h : a.Perm b) : sg c a = sg c b := by
  induction h with
  | nil => rfl
  | cons x _ ih => simp only [sg, ih]
  | swap x y l => simp only [sg]; omega
  | trans _ _ h1 h2 => exact h1.trans h2
theorem sg_le_sb (c : Int) (a : List (Int × Int)) : sg c a ≤ sb a := by
  induction a with
  | nil => simp [sg, sb]
  | cons p a ih => simp only [sg, sb, g]; split <;> omega
theorem low (c : Int) : ∀ (t : List (Int × Int)), Pos t → (∃ p ∈ t, c ≤ p.1) → c + sg c t ≤ done t := by
  intro t
  induction t with
  | nil => intro _ h; obtain ⟨p, h, _⟩ := h; simp at h
  | cons p t ih =>
    intro hp he
    have h0 := hp p (by simp)
    have hps : Pos t := fun q hq => hp q (by simp [hq])
    rw [done_cons p t h0 hps]
    have hl := sg_le_sb c t
    by_cases h : c ≤ p.1
    · simp only [sg, g, if_pos h]; omega
    · obtain ⟨q, hq, hc⟩ := he
      have hq' : q ∈ t := by
        rcases List.mem_cons.1 hq with rfl | hq
        · exact absurd hc h
        · exact hq
      have := ih hps ⟨q, hq', hc⟩
      simp only [sg, g, if_neg h]; omega
theorem split_max : ∀ (t : List (Int × Int)), Pos t → t ≠ [] → ∃ u k v, t = u ++ k :: v ∧ done t = sa u + k.1 + k.2 + sb v := by
  intro t
  induction t with
  | nil => intro _ h; exact absurd rfl h
  | cons p t ih =>
    intro hp _
    have h0 := hp p (by simp)
    have hps : Pos t := fun q hq => hp q (by simp [hq])
    rw [done_cons p t h0 hps]
    by_cases h : done t ≤ p.2 + sb t
    · exact ⟨[], p, t, rfl, by simp [sa]; omega⟩
    · have hne : t ≠ [] := by
        intro e; subst e; simp [done, run, sb] at h; omega
      obtain ⟨u, k, v, e, hd⟩ := ih hps hne
      exact ⟨p :: u, k, v, by rw [e]; rfl, by rw [hd]; simp only [sa]; omega⟩
theorem sa_le_sg (c : Int) : ∀ (u : List (Int × Int)), (∀ p ∈ u, p.1 ≤ p.2) → sa u ≤ sg c u := by
  intro u
  induction u with
  | nil => intro _; simp [sa, sg]
  | cons p u ih =>
    intro h
    have := ih (fun q hq => h q (by simp [hq])); have := h p (by simp)
    simp only [sa, sg, g]; split <;> omega
theorem sb_le_sg (c : Int) : ∀ (v : List (Int × Int)), (∀ p ∈ v, p.2 ≤ p.1 ∨ c ≤ p.1) → sb v ≤ sg c v := by
  intro v
  induction v with
  | nil => intro _; simp [sb, sg]
  | cons p v ih =>
    intro h
    have := ih (fun q hq => h q (by simp [hq])); have := h p (by simp)
    simp only [sb, sg, g]; split <;> omega
theorem bound_at (u v t : List (Int × Int)) (k : Int × Int) (hp : Pos t) (hu : ∀ p ∈ u, p.1 ≤ p.2) (hv : ∀ p ∈ v, p.2 ≤ p.1 ∨ k.1 ≤ p.1) (h : (u ++ k :: v).Perm t) :
    sa u + k.1 + k.2 + sb v ≤ done t := by
  have h1 := low k.1 t hp ⟨k, h.mem_iff.1 (by simp), by omega⟩
  rw [← sg_perm k.1 h, sg_append] at h1
  have h2 := sa_le_sg k.1 u hu
  have h3 := sb_le_sg k.1 v hv
  simp only [sg, g, if_pos (Int.le_refl k.1)] at h1
  omega
theorem rev_perm {a b : List (Int × Int)} (h : a.Perm b) : (rev a).Perm (rev b) :=
  (List.reverse_perm _).trans ((h.map _).trans (List.reverse_perm _).symm)
theorem pos_rev {a : List (Int × Int)} (h : Pos a) : Pos (rev a) := fun p hp => by
  simp only [rev, List.mem_reverse, List.mem_map] at hp
  obtain ⟨q, hq, rfl⟩ := hp
  exact ⟨(h q hq).2, (h q hq).1⟩
/-- who is ahead of whom by Johnson -/
def ahead (p q : Int × Int) : Prop := (p.1 ≤ p.2 ∧ (q.1 ≤ q.2 → p.1 ≤ q.1)) ∨ (p.2 < p.1 ∧ q.2 < q.1 ∧ q.2 ≤ p.2)
theorem johnson (s t : List (Int × Int)) (hp : Pos t) (hs : s.Pairwise ahead) (h : s.Perm t) : done s ≤ done t := by
  have hps : Pos s := fun p hm => hp p (h.mem_iff.1 hm)
  by_cases hne : s = []
  · subst hne; rw [List.nil_perm.1 h]; omega
  · obtain ⟨u, k, v, e, hd⟩ := split_max s hps hne
    rw [hd]
    subst e
    have hs' := List.pairwise_append.1 hs
    have hk := List.pairwise_cons.1 hs'.2.1
    by_cases hkk : k.1 ≤ k.2
    · refine bound_at u v t k hp (fun p hpu => ?_) (fun p hpv => ?_) h
      · have := hs'.2.2 p hpu k (by simp)
        unfold ahead at this; omega
      · have := hk.1 p hpv
        unfold ahead at this; omega
    · have hr := bound_at (rev v) (rev u) (rev t) (k.2, k.1) (pos_rev hp) (fun p hpu => ?_) (fun p hpv => ?_) (by
        have := rev_perm h
        simpa [rev] using this)
      · rw [done_rev t hp, sa_rev] at hr
        have e2 : sb (rev u) = sa u := by
          have := sa_rev (rev u)
          have e3 : rev (rev u) = u := by simp [rev, Function.comp_def]
          rw [e3] at this; exact this.symm
        rw [e2] at hr; simp only at hr; omega
      · simp only [rev, List.mem_reverse, List.mem_map] at hpu
        obtain ⟨q, hq, rfl⟩ := hpu
        have := hk.1 q hq
        unfold ahead at this; simp only; omega
      · simp only [rev, List.mem_reverse, List.mem_map] at hpv
        obtain ⟨q, hq, rfl⟩ := hpv
        have := hs'.2.2 q hq k (by simp)
        unfold ahead at this; simp only; omega
end Go.Proofs.YtpaoiaogcckibaaDoor
