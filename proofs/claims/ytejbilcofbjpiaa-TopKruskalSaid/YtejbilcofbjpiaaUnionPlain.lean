/- Plain: things in groups, each with one that stands for its group; ways that are shortened, groups that are joined. Conditions: none. -/
namespace Go.Proofs.Ytejbilcofbjpiaa

def upd (f : Nat → Nat) (i v : Nat) : Nat → Nat := fun x => if x = i then v else f x

/-- up leads every thing to the one that stands for its group -/
structure Rep (n : Nat) (up R rk : Nat → Nat) (K : Nat) : Prop where
  up_lt : ∀ x, x < n → up x < n
  rep_lt : ∀ x, x < n → R x < n
  rep_up : ∀ x, x < n → R (up x) = R x
  fix : ∀ x, x < n → up x = x → R x = x
  root : ∀ x, x < n → up (R x) = R x
  climb : ∀ x, x < n → up x ≠ x → rk x < rk (up x)
  low : ∀ x, x < n → rk x ≤ K

theorem Rep.start (n : Nat) : Rep n id id (fun _ => 0) 0 := ⟨fun _ h => h, fun _ h => h, fun _ _ => rfl, fun _ _ _ => rfl, fun _ _ => rfl, fun _ _ h => absurd rfl h, fun _ _ => Nat.le_refl _⟩

section
variable {n K : Nat} {up R rk : Nat → Nat}
theorem Rep.idem (h : Rep n up R rk K) {x : Nat} (hx : x < n) : R (R x) = R x := h.fix _ (h.rep_lt x hx) (h.root x hx)
theorem Rep.at_root (h : Rep n up R rk K) {x : Nat} (hx : x < n) (e : R x = x) : up x = x := by
  have := h.root x hx; rw [e] at this; exact this

theorem Rep.halve (h : Rep n up R rk K) {a : Nat} (ha : a < n) (hne : up a ≠ a) : Rep n (upd up a (up (up a))) R rk K := by
  have h1 := h.up_lt a ha
  have h2 := h.up_lt _ h1
  have hc := h.climb a ha hne
  have hc2 : rk (up a) ≤ rk (up (up a)) := by
    by_cases e : up (up a) = up a
    · rw [e]; exact Nat.le_refl _
    · exact Nat.le_of_lt (h.climb _ h1 e)
  refine ⟨fun x hx => ?_, h.rep_lt, fun x hx => ?_, fun x hx e => ?_, fun x hx => ?_, fun x hx e => ?_, h.low⟩
  · unfold upd; split
    · exact h2
    · exact h.up_lt x hx
  · unfold upd; split
    · next e => subst e; rw [h.rep_up _ h1, h.rep_up _ hx]
    · exact h.rep_up x hx
  · unfold upd at e; split at e
    · next e' => subst e'; exfalso; rw [e] at hc2; omega
    · exact h.fix x hx e
  · unfold upd
    split
    · next e => exfalso; apply hne; rw [← e]; exact h.root x hx
    · exact h.root x hx
  · unfold upd at e ⊢; split
    · next e' => subst e'; omega
    · next e' => rw [if_neg e'] at e; exact h.climb x hx e

/-- the group of y is put under the one of x -/
def link (R : Nat → Nat) (x y : Nat) : Nat → Nat := fun z => if R z = y then x else R z
theorem Rep.link (h : Rep n up R rk K) {x y : Nat} (hx : x < n) (hy : y < n) (ex : R x = x) (ey : R y = y) (hne : x ≠ y) :
    Rep n (upd up y x) (Go.Proofs.Ytejbilcofbjpiaa.link R x y) (fun z => rk z + if R z = x then K + 1 else 0) (2 * K + 1) := by
  refine ⟨fun z hz => ?_, fun z hz => ?_, fun z hz => ?_, fun z hz e => ?_, fun z hz => ?_, fun z hz e => ?_, fun z hz => ?_⟩
  · unfold upd; split
    · exact hx
    · exact h.up_lt z hz
  · unfold Go.Proofs.Ytejbilcofbjpiaa.link; split
    · exact hx
    · exact h.rep_lt z hz
  · unfold upd Go.Proofs.Ytejbilcofbjpiaa.link; split
    · next e => subst e; rw [if_pos ey, if_neg (by omega)]; exact ex
    · next e => rw [h.rep_up z hz]
  · unfold upd at e; unfold Go.Proofs.Ytejbilcofbjpiaa.link; split at e
    · next e' => omega
    · next e' =>
      have := h.fix z hz e
      rw [if_neg (by omega)]; exact this
  · unfold upd Go.Proofs.Ytejbilcofbjpiaa.link
    by_cases e : R z = y
    · rw [if_pos e]; rw [if_neg hne]; exact h.at_root hx ex
    · rw [if_neg e, if_neg e]; exact h.root z hz
  · unfold upd at e ⊢
    by_cases e' : z = y
    · subst e'
      simp only [if_true]
      rw [if_neg (by omega), if_pos ex]
      have := h.low z hz; omega
    · rw [if_neg e'] at e ⊢
      rw [h.rep_up z hz]
      have := h.climb z hz e; omega
  · have := h.low z hz
    split <;> omega
end

/-- how many stand for a group -/
def roots (n : Nat) (R : Nat → Nat) : Nat := ((List.range n).filter fun x => R x == x).length
theorem roots_id (n : Nat) : roots n id = n := by
  unfold roots
  rw [List.filter_eq_self.2 (by simp)]; simp
theorem filter_one {n : Nat} (p q : Nat → Bool) (y : Nat) (hy : y < n) (hp : p y = true) (hq : q y = false) (he : ∀ x, x ≠ y → q x = p x) :
    ((List.range n).filter q).length + 1 = ((List.range n).filter p).length := by
  induction n with
  | zero => omega
  | succ n ih =>
    rw [List.range_succ, List.filter_append, List.filter_append, List.length_append, List.length_append]
    by_cases e : y = n
    · subst e
      have e1 : (List.range y).filter q = (List.range y).filter p := List.filter_congr fun x hx => he x (by have := List.mem_range.1 hx; omega)
      rw [e1]; simp [hp, hq]
    · have := ih (by omega)
      have e2 := he n (by omega)
      have e3 : ([n].filter q).length = ([n].filter p).length := by simp [List.filter_cons, e2]
      omega
theorem roots_link {n : Nat} {R : Nat → Nat} {x y : Nat} (hy : y < n) (ex : R x = x) (ey : R y = y) (hne : x ≠ y) : roots n (link R x y) + 1 = roots n R := by
  unfold roots
  refine filter_one _ _ y hy (by simp [ey]) (by simp [link, ey, hne]) fun z hz => ?_
  unfold link
  by_cases e : R z = y
  · rw [if_pos e]
    have h1 : (R z == z) = false := by simp; omega
    have h2 : (x == z) = false := by
      simp; intro e3; subst e3; omega
    rw [h1, h2]
  · rw [if_neg e]
theorem roots_pos {n : Nat} {R : Nat → Nat} {x : Nat} (hx : x < n) (ex : R x = x) : 0 < roots n R := by
  unfold roots
  exact List.length_pos_of_mem (List.mem_filter.2 ⟨List.mem_range.2 hx, by simp [ex]⟩)
end Go.Proofs.Ytejbilcofbjpiaa
