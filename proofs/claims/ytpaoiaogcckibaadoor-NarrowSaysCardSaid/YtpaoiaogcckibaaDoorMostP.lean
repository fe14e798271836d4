/- Plain: the heaviest edge of a walk; a walk joins its ends by edges no heavier. Conditions: none. -/
import Derived.Test.YtpaoiaogcckibaaDoorNarrowP
import Derived.Test.YtpaoiaogcckibaaDoorSpanCheck
namespace Go.Proofs.YtpaoiaogcckibaaDoor
/-- the lighter one of what there is and an edge from a to b, either way -/
def stepOn (a b best : Int) (e : Edge) : Int := if ((e.a = a ∧ e.b = b) ∨ (e.b = a ∧ e.a = b)) ∧ (best < 0 ∨ e.weight < best) then e.weight else best
def stepL (l : List Edge) (a b : Int) : Int := l.foldl (stepOn a b) (-1)
theorem step_mem (a b : Int) : ∀ (l : List Edge) (best : Int), l.foldl (stepOn a b) best = best ∨ ∃ e ∈ l, e.weight = l.foldl (stepOn a b) best ∧ ((e.a = a ∧ e.b = b) ∨ (e.b = a ∧ e.a = b)) := by
  intro l
  induction l with
  | nil => intro best; exact Or.inl rfl
  | cons x l ih =>
    intro best
    rw [List.foldl_cons]
    rcases ih (stepOn a b best x) with h | ⟨e, he, h⟩
    · rw [h]
      unfold stepOn
      split
      · next hc => exact Or.inr ⟨x, by simp, rfl, hc.1⟩
      · exact Or.inl rfl
    · exact Or.inr ⟨e, by simp [he], h⟩
theorem step_edge {l : List Edge} {a b : Int} (h : 0 ≤ stepL l a b) : ∃ e ∈ l, e.weight = stepL l a b ∧ ((e.a = a ∧ e.b = b) ∨ (e.b = a ∧ e.a = b)) := by
  rcases step_mem a b l (-1) with h1 | h1
  · unfold stepL at h; omega
  · exact h1
/-- the heaviest of the steps -/
def mostFrom (l : List Edge) : Int → Int → List Int → Option Int
  | m, _, [] => some m
  | m, p, x :: xs => if stepL l p x < 0 then none else mostFrom l (max m (stepL l p x)) x xs
/-- what narrow.Most says of a walk: what is wrong -/
def nodesE (N : Int) : List Int → Int
  | [] => 0
  | x :: l => if inB x 0 (N - 1) = true then nodesE N l else 1
theorem nodesE_ok (N : Int) : ∀ (l : List Int), nodesE N l = 0 → ∀ x ∈ l, 0 ≤ x ∧ x ≤ N - 1 := by
  intro l
  induction l with
  | nil => intro _ p hp; simp at hp
  | cons q l ih =>
    intro h p hp
    simp only [nodesE] at h
    split at h
    · next e =>
      rcases List.mem_cons.1 hp with rfl | hp
      · exact of_inB e
      · exact ih h p hp
    · simp at h
def walkErr (N : Int) (walk : List Int) : Int := if nodesE N walk = 0 then (if walk.length = 0 then 3 else if 60 < walk.length then 4 else 0) else nodesE N walk
def mostOf (l : List Edge) : List Int → Option Int
  | [] => none
  | p :: xs => mostFrom l 0 p xs
theorem By.edge {N : Nat} {l : List Edge} {m u v : Int} {e : Edge} (he : e ∈ l) (hw : e.weight ≤ m) (hc : (e.a = u ∧ e.b = v) ∨ (e.b = u ∧ e.a = v)) (hu : 0 ≤ u ∧ u < N) (hv : 0 ≤ v ∧ v < N) : By N l m u.toNat v.toNat := by
  have h1 : (u.toNat : Int) = u := by omega
  have h2 : (v.toNat : Int) = v := by omega
  rcases hc with ⟨a1, a2⟩ | ⟨a1, a2⟩
  · exact Conn.pair (by omega) (by omega) (by rw [h1, h2]; exact mem_lightE.2 ⟨e, he, hw, a1, a2⟩)
  · exact (Conn.pair (by omega) (by omega) (by rw [h1, h2]; exact mem_lightE.2 ⟨e, he, hw, a2, a1⟩)).symm
theorem By.refl {N : Nat} {l : List Edge} {m : Int} {x : Nat} : By N l m x x := Conn.refl _ _ _
theorem By.symm {N : Nat} {l : List Edge} {m : Int} {x y : Nat} (h : By N l m x y) : By N l m y x := Conn.symm h
theorem By.trans {N : Nat} {l : List Edge} {m : Int} {x y z : Nat} (h : By N l m x y) (h2 : By N l m y z) : By N l m x z := Conn.trans h h2
theorem most_by {N : Nat} {l : List Edge} : ∀ (xs : List Int) (m p n : Int), mostFrom l m p xs = some n → (0 ≤ p ∧ p ≤ (N : Int) - 1) → (∀ x ∈ xs, 0 ≤ x ∧ x ≤ (N : Int) - 1) → m ≤ n ∧ By N l n p.toNat (xs.getLastD p).toNat := by
  intro xs
  induction xs with
  | nil =>
    intro m p n h _ _
    simp only [mostFrom, Option.some.injEq] at h
    exact ⟨by omega, By.refl⟩
  | cons x xs ih =>
    intro m p n h hp hx
    rw [mostFrom] at h
    split at h
    · cases h
    · next hs =>
      have hx0 := hx x (by simp)
      obtain ⟨h1, h2⟩ := ih _ _ _ h hx0 fun y hy => hx y (by simp [hy])
      obtain ⟨e, he, hw, hc⟩ := step_edge (l := l) (a := p) (b := x) (by omega)
      refine ⟨by omega, ?_⟩
      have h3 : By N l n p.toNat x.toNat := By.edge he (by omega) hc (by omega) (by omega)
      have h4 : (x :: xs).getLastD p = xs.getLastD x := by cases xs <;> rfl
      rw [h4]
      exact h3.trans h2
theorem last_at (xs : List Int) (p : Int) : (p :: xs)[xs.length]? = some (xs.getLastD p) := by
  induction xs generalizing p with
  | nil => rfl
  | cons x xs ih =>
    have h4 : (x :: xs).getLastD p = xs.getLastD x := by cases xs <;> rfl
    rw [h4, ← ih x]
    rfl
/-- what is wrong with two nodes of a graph -/
def leastErr (x : Int) (l : List Edge) (a b : Int) : Int := if graphErr x l = 0 then (if inB a 0 (x - 1) = true ∧ inB b 0 (x - 1) = true then 0 else 1) else graphErr x l
theorem leastErr_ok {x : Int} {l : List Edge} {a b : Int} (h : leastErr x l a b = 0) : graphErr x l = 0 ∧ (0 ≤ a ∧ a ≤ x - 1) ∧ (0 ≤ b ∧ b ≤ x - 1) := by
  unfold leastErr at h
  split at h
  · next h0 =>
    split at h
    · next h1 => exact ⟨h0, of_inB h1.1, of_inB h1.2⟩
    · cases h
  · next h0 => exact absurd h h0
theorem leastErr_of {x : Int} {l : List Edge} {a b : Int} (h : graphErr x l = 0) (ha : 0 ≤ a ∧ a ≤ x - 1) (hb : 0 ≤ b ∧ b ≤ x - 1) : leastErr x l a b = 0 := by
  unfold leastErr
  rw [if_pos h, if_pos ⟨inB_true ha, inB_true hb⟩]
/-- what narrow.Least answers -/
def LeastAns (x : Int) (l : List Edge) (a b : Int) (v er : Int) : Prop :=
  (leastErr x l a b ≠ 0 ∧ er = leastErr x l a b ∧ v = 0) ∨ (leastErr x l a b = 0 ∧ er = 0 ∧ LeastIs x.toNat l a.toNat b.toNat v) ∨ (leastErr x l a b = 0 ∧ er = 5 ∧ v = 0 ∧ ∀ m, ¬ By x.toNat l m a.toNat b.toNat)
theorem LeastAns.ok {x : Int} {l : List Edge} {a b v er : Int} (h : LeastAns x l a b v er) (he : er = 0) : leastErr x l a b = 0 ∧ LeastIs x.toNat l a.toNat b.toNat v := by
  rcases h with ⟨h1, h2, _⟩ | ⟨h1, _, h3⟩ | ⟨_, h2, _⟩
  · exact absurd (h2 ▸ he) h1
  · exact ⟨h1, h3⟩
  · omega
theorem LeastAns.way {x : Int} {l : List Edge} {a b v er m : Int} (h : LeastAns x l a b v er) (he : leastErr x l a b = 0) (hm : 0 ≤ m) (hb : By x.toNat l m a.toNat b.toNat) : er = 0 ∧ v ≤ m ∧ 0 ≤ v := by
  rcases h with ⟨h1, h2, _⟩ | ⟨_, h2, h3⟩ | ⟨_, _, _, h4⟩
  · exact absurd he h1
  · exact ⟨h2, h3.2.2 m hm hb, h3.1.1⟩
  · exact absurd hb (h4 m)
theorem LeastAns.uniq {x : Int} {l : List Edge} {a b v er v' er' : Int} (h : LeastAns x l a b v er) (h' : LeastAns x l a b v' er') : v = v' ∧ er = er' := by
  rcases h with ⟨h1, h2, h3⟩ | ⟨h1, h2, h3⟩ | ⟨h1, h2, h3, h4⟩ <;> rcases h' with ⟨g1, g2, g3⟩ | ⟨g1, g2, g3⟩ | ⟨g1, g2, g3, g4⟩
  · omega
  · exact absurd g1 h1
  · exact absurd g1 h1
  · exact absurd h1 g1
  · exact ⟨h3.uniq g3, by omega⟩
  · exact absurd h3.2.1 (g4 _)
  · exact absurd h1 g1
  · exact absurd g3.2.1 (h4 _)
  · omega
/-- of three the two greatest are alike -/
theorem least_three {x : Int} {l : List Edge} {a b c v1 v2 v3 v4 er1 er2 er3 er4 : Int} (h1 : LeastAns x l a b v1 er1) (h2 : LeastAns x l b c v2 er2) (h3 : LeastAns x l a c v3 er3) (h4 : LeastAns x l a a v4 er4) (e1 : er1 = 0) (e2 : er2 = 0) :
    er3 = 0 ∧ (v3 ≤ v1 ∨ v3 ≤ v2) ∧ er4 = 0 ∧ v4 = 0 := by
  obtain ⟨p1, q1⟩ := h1.ok e1
  obtain ⟨p2, q2⟩ := h2.ok e2
  obtain ⟨g1, r1, r2⟩ := leastErr_ok p1
  obtain ⟨_, _, r3⟩ := leastErr_ok p2
  have b1 := q1.2.1.up (m' := max v1 v2) (by omega)
  have b2 := q2.2.1.up (m' := max v1 v2) (by omega)
  obtain ⟨s1, s2, _⟩ := h3.way (m := max v1 v2) (leastErr_of g1 r1 r3) (by have := q1.1.1; omega) (b1.trans b2)
  obtain ⟨s3, s4, s5⟩ := h4.way (m := 0) (leastErr_of g1 r1 r1) (by omega) By.refl
  exact ⟨s1, by omega, s3, by omega⟩
/-- what narrow.Most answers -/
def mostErr (x : Int) (l : List Edge) (walk : List Int) : Int := if graphErr x l = 0 then (if walkErr x walk = 0 then (if (mostOf l walk).isSome = true then 0 else 5) else walkErr x walk) else graphErr x l
def mostVal (x : Int) (l : List Edge) (walk : List Int) : Int := if mostErr x l walk = 0 then (mostOf l walk).getD 0 else 0
theorem mostErr_ok {x : Int} {l : List Edge} {walk : List Int} (h : mostErr x l walk = 0) : graphErr x l = 0 ∧ (∀ a ∈ walk, 0 ≤ a ∧ a ≤ x - 1) ∧ walk.length ≤ 60 ∧ ∃ p xs n, walk = p :: xs ∧ mostFrom l 0 p xs = some n ∧ mostVal x l walk = n := by
  have hv : mostVal x l walk = (mostOf l walk).getD 0 := if_pos h
  unfold mostErr at h
  split at h
  · next h0 =>
    split at h
    · next h1 =>
      split at h
      · next h2 =>
        unfold walkErr at h1
        split at h1
        · next h3 =>
          replace h3 := nodesE_ok _ _ h3
          split at h1
          · cases h1
          · next h4 =>
            split at h1
            · cases h1
            · cases walk with
              | nil => exact absurd rfl h4
              | cons p xs =>
                simp only [mostOf] at h2 hv
                obtain ⟨n, hn⟩ := Option.isSome_iff_exists.1 h2
                rw [hn] at hv
                exact ⟨h0, h3, by omega, p, xs, n, rfl, hn, hv⟩
        · next h3 => exact absurd h1 h3
      · cases h
    · next h1 => exact absurd h h1
  · next h0 => exact absurd h h0
/-- no way is lighter than any walk -/
theorem least_any {x : Int} {l : List Edge} {p : Int} {xs : List Int} {v1 v2 er1 er2 : Int} (h : mostErr x l (p :: xs) = 0) (h1 : LeastAns x l p (xs.getLastD p) v1 er1) (h2 : LeastAns x l (xs.getLastD p) p v2 er2) :
    er1 = 0 ∧ er2 = 0 ∧ v1 ≤ mostVal x l (p :: xs) ∧ v1 = v2 := by
  obtain ⟨g1, g2, _, p', xs', n, e1, e2, e3⟩ := mostErr_ok h
  injection e1 with e1 e4
  subst e1 e4
  rw [e3]
  obtain ⟨N, rfl⟩ : ∃ N : Nat, x = N := ⟨x.toNat, by have := (graphErr_ok g1).1; omega⟩
  obtain ⟨b1, b2⟩ := most_by (N := N) xs 0 p n e2 (g2 p (by simp)) (fun y hy => g2 y (by simp [hy]))
  have hl : xs.getLastD p ∈ p :: xs := List.mem_of_getElem? (last_at xs p)
  have k1 := leastErr_of g1 (g2 p (by simp)) (g2 _ hl)
  have k2 := leastErr_of g1 (g2 _ hl) (g2 p (by simp))
  obtain ⟨s1, s2, s3⟩ := h1.way (m := n) k1 (by omega) b2
  obtain ⟨s4, s5, s6⟩ := h2.way (m := n) k2 (by omega) b2.symm
  obtain ⟨_, t1⟩ := h1.ok s1
  obtain ⟨_, t2⟩ := h2.ok s4
  have t3 := t1.2.2 v2 s6 t2.2.1.symm
  have t4 := t2.2.2 v1 s3 t1.2.1.symm
  exact ⟨s1, s4, s2, by omega⟩
end Go.Proofs.YtpaoiaogcckibaaDoor
