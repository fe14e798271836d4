/- Plain: how long a walk is, by the lightest edges; ways back; what path.Way tells is as long as told. Conditions: weights are not below 0. -/
import Derived.Test.YtmcfhiddhifdcaaDoorWayP
namespace Go.Proofs.YtmcfhiddhifdcaaDoor
open Go.RowKit
/-- of the edges from a to b the lightest; -1: there is none -/
def lightFrom (a b : Int) : List Edge → Int → Int
  | [], m => m
  | e :: l, m => lightFrom a b l (if (e.a = a ∧ e.b = b) ∧ (m < 0 ∨ e.weight < m) then e.weight else m)
def light (l : List Edge) (a b : Int) : Int := lightFrom a b l (-1)
theorem lightFrom_spec (a b : Int) : ∀ (l : List Edge) (m : Int), (∀ e ∈ l, 0 ≤ e.weight) →
    (lightFrom a b l m = m ∨ ∃ e ∈ l, e.a = a ∧ e.b = b ∧ lightFrom a b l m = e.weight) ∧ (0 ≤ m → lightFrom a b l m ≤ m) ∧ (∀ e ∈ l, e.a = a → e.b = b → lightFrom a b l m ≤ e.weight) ∧ ((0 ≤ m ∨ ∃ e ∈ l, e.a = a ∧ e.b = b) → 0 ≤ lightFrom a b l m) := by
  intro l
  induction l with
  | nil => intro m _; exact ⟨Or.inl rfl, fun _ => Int.le_refl _, fun e he => by simp at he, fun h => by rcases h with h | ⟨e, he, _⟩; exact h; simp at he⟩
  | cons e l ih =>
    intro m hl
    have he := hl e (by simp)
    have hl' : ∀ x ∈ l, 0 ≤ x.weight := fun x hx => hl x (by simp [hx])
    simp only [lightFrom]
    by_cases hc : (e.a = a ∧ e.b = b) ∧ (m < 0 ∨ e.weight < m)
    · rw [if_pos hc]
      obtain ⟨h1, h2, h3, h4⟩ := ih e.weight hl'
      have h5 := h2 he
      refine ⟨?_, fun h => by omega, fun x hx p q => ?_, fun _ => h4 (Or.inl he)⟩
      · right
        rcases h1 with h1 | ⟨x, hx, p, q, h1⟩
        · exact ⟨e, by simp, hc.1.1, hc.1.2, h1⟩
        · exact ⟨x, by simp [hx], p, q, h1⟩
      · rcases List.mem_cons.1 hx with rfl | hx
        · exact h5
        · exact h3 x hx p q
    · rw [if_neg hc]
      obtain ⟨h1, h2, h3, h4⟩ := ih m hl'
      refine ⟨?_, h2, fun x hx p q => ?_, fun h => h4 ?_⟩
      · rcases h1 with h1 | ⟨x, hx, p, q, h1⟩
        · exact Or.inl h1
        · exact Or.inr ⟨x, by simp [hx], p, q, h1⟩
      · rcases List.mem_cons.1 hx with rfl | hx
        · have hn : ¬ (m < 0 ∨ x.weight < m) := fun h => hc ⟨⟨p, q⟩, h⟩
          have := h2 (by omega)
          omega
        · exact h3 x hx p q
      · rcases h with h | ⟨x, hx, p, q⟩
        · exact Or.inl h
        · rcases List.mem_cons.1 hx with rfl | hx
          · left
            have hn : ¬ (m < 0 ∨ x.weight < m) := fun h => hc ⟨⟨p, q⟩, h⟩
            omega
          · exact Or.inr ⟨x, hx, p, q⟩
theorem light_some {l : List Edge} (hl : ∀ e ∈ l, 0 ≤ e.weight) {a b : Int} (h : ¬ light l a b < 0) : ∃ e ∈ l, e.a = a ∧ e.b = b ∧ light l a b = e.weight := by
  rcases (lightFrom_spec a b l (-1) hl).1 with h1 | h1
  · exfalso; apply h; show lightFrom a b l (-1) < 0; omega
  · exact h1
theorem light_le {l : List Edge} (hl : ∀ e ∈ l, 0 ≤ e.weight) {e : Edge} (he : e ∈ l) : 0 ≤ light l e.a e.b ∧ light l e.a e.b ≤ e.weight := by
  obtain ⟨_, _, h3, h4⟩ := lightFrom_spec e.a e.b l (-1) hl
  exact ⟨h4 (Or.inr ⟨e, he, rfl, rfl⟩), h3 e he rfl rfl⟩
/-- how long a walk is; none: an edge is lacking -/
def longRes (l : List Edge) : List Int → Option Int
  | [] => some 0
  | [_] => some 0
  | x :: y :: r => if light l x y < 0 then none else (longRes l (y :: r)).map fun n => light l x y + n
theorem longRes_step {l : List Edge} {x y : Int} {r : List Int} (h : ¬ light l x y < 0) : longRes l (x :: y :: r) = (longRes l (y :: r)).map fun n => light l x y + n := by simp [longRes, h]
theorem longRes_none {l : List Edge} {x y : Int} {r : List Int} (h : light l x y < 0) : longRes l (x :: y :: r) = none := by simp [longRes, h]
theorem longRes_pos {l : List Edge} : ∀ {xs : List Int} {n : Int}, longRes l xs = some n → 0 ≤ n := by
  intro xs
  induction xs with
  | nil => intro n h; simp [longRes] at h; omega
  | cons x r ih =>
    cases r with
    | nil => intro n h; simp [longRes] at h; omega
    | cons y r =>
      intro n h
      by_cases hc : light l x y < 0
      · rw [longRes_none hc] at h; cases h
      · rw [longRes_step hc] at h
        obtain ⟨m, hm, rfl⟩ := Option.map_eq_some_iff.1 h
        have := ih hm; omega
theorem mem_arcs_false {l : List Edge} {p q c : Int} : (p, q, c) ∈ arcs false l ↔ ∃ e ∈ l, e.a = p ∧ e.b = q ∧ e.weight = c := by
  unfold arcs
  rw [List.mem_map]
  constructor
  · rintro ⟨e, he, h⟩
    simp only [Bool.false_eq_true, if_false, Prod.mk.injEq] at h
    exact ⟨e, he, h⟩
  · rintro ⟨e, he, h1, h2, h3⟩
    exact ⟨e, he, by simp only [Bool.false_eq_true, if_false, h1, h2, h3]⟩
/-- a walk is a way, as long as it is -/
theorem long_reach {l : List Edge} (hl : ∀ e ∈ l, 0 ≤ e.weight) : ∀ (r : List Int) (x n : Int), longRes l (x :: r) = some n → Reach (arcs false l) x ((x :: r).getLast (by simp)) n r.length := by
  intro r
  induction r with
  | nil => intro x n h; simp [longRes] at h; subst h; exact Reach.start
  | cons y r ih =>
    intro x n h
    by_cases hc : light l x y < 0
    · rw [longRes_none hc] at h; cases h
    · rw [longRes_step hc] at h
      obtain ⟨m, hm, rfl⟩ := Option.map_eq_some_iff.1 h
      obtain ⟨e, he, h1, h2, h3⟩ := light_some hl hc
      have h4 := ih y m hm
      have h5 : Reach (arcs false l) x y (0 + light l x y) (0 + 1) := Reach.start.step (mem_arcs_false.2 ⟨e, he, h1, h2, h3.symm⟩)
      have h6 := h5.trans h4
      rw [List.getLast_cons (by simp)]
      rw [show (0 : Int) + light l x y + m = light l x y + m by omega, show (0 : Int) + 1 + (r.length : Int) = ((y :: r).length : Int) by simp; omega] at h6
      exact h6
theorem Reach.back {l : List Edge} {ag : Bool} {s v w e : Int} (h : Reach (arcs ag l) s v w e) : Reach (arcs (!ag) l) v s w e := by
  induction h with
  | start => exact Reach.start
  | step _ hg ih =>
    rename_i u w e v c _
    have h1 : Reach (arcs (!ag) l) v u (0 + c) (0 + 1) := by
      refine Reach.start.step ?_
      cases ag with
      | true =>
        obtain ⟨x, hx, a1, a2, a3⟩ := mem_arcs_true.1 hg
        exact mem_arcs_false.2 ⟨x, hx, a2, a1, a3⟩
      | false =>
        obtain ⟨x, hx, a1, a2, a3⟩ := mem_arcs_false.1 hg
        exact mem_arcs_true.2 ⟨x, hx, a2, a1, a3⟩
    have h2 := h1.trans ih
    rw [show (0 : Int) + c + w = w + c by omega, show (0 : Int) + 1 + e = e + 1 by omega] at h2
    exact h2
/-- there and back it is as far -/
theorem short_both {N : Nat} {l : List Edge} {s t : Int} {D D' : Int → Option (Int × Int)} (h : Short (arcs false l) s N D) (h' : Short (arcs true l) t N D') : D t = D' s := by
  have key : ∀ {ag : Bool} {s t : Int} {D D' : Int → Option (Int × Int)}, Short (arcs ag l) s N D → Short (arcs (!ag) l) t N D' → ∀ w e, D t = some (w, e) → ∃ w' e', D' s = some (w', e') ∧ le2 w' e' w e :=
    fun h h' w e he => h'.least (h.sound _ _ _ he).1.back
  cases h1 : D t with
  | none =>
    cases h2 : D' s with
    | none => rfl
    | some p =>
      obtain ⟨w, e, h3, _⟩ := key (ag := true) h' h p.1 p.2 h2
      rw [h1] at h3; cases h3
  | some p =>
    obtain ⟨w, e, h3, h4⟩ := key h h' p.1 p.2 h1
    obtain ⟨w', e', h5, h6⟩ := key (ag := true) h' h w e h3
    rw [h1] at h5
    injection h5 with h5
    rw [h3]
    obtain ⟨p1, p2⟩ := p
    injection h5 with h7 h8
    simp only at h4
    have : w = p1 ∧ e = p2 := by unfold le2 at h4 h6; omega
    rw [this.1, this.2]
section
variable {N : Nat} {l : List Edge} {D : Int → Option (Int × Int)} {t : Int}
theorem at_end (hD : Short (arcs true l) t N D) {u w : Int} (hu : D u = some (w, 0)) : u = t ∧ w = 0 := by
  have h1 := (hD.sound _ _ _ hu).1
  have h2 := h1.zero.2 rfl
  subst h2
  rw [hD.first] at hu
  injection hu with hu; injection hu with hu _; exact ⟨rfl, hu.symm⟩
theorem long_way (hD : Short (arcs true l) t N D) (hl : ∀ e ∈ l, 0 ≤ e.b) (hw : ∀ e ∈ l, 0 ≤ e.weight) : ∀ (k : Nat) (u w : Int), D u = some (w, (k : Int)) → longRes l (u :: wayFrom l D k u) = some w := by
  intro k
  induction k with
  | zero => intro u w hu; rw [(at_end hD hu).2]; rfl
  | succ k ih =>
    intro u w hu
    obtain ⟨e, he, h1, h2, h3, h4⟩ := next_is hD hl hu (by omega)
    have h3' : D (nextOf l D u) = some (w - e.weight, (k : Int)) := by rw [h3]; congr 2; omega
    have h5 := ih _ _ h3'
    obtain ⟨h6, h7⟩ := light_le hw he
    rw [h1, h2] at h6 h7
    have hc : ¬ light l u (nextOf l D u) < 0 := by omega
    obtain ⟨e', he', g1, g2, g3⟩ := light_some hw hc
    obtain ⟨w', k', g4, g5⟩ := hD.closed _ _ _ h3' _ _ (mem_arcs_true.2 ⟨e', he', g2, g1, rfl⟩)
    rw [hu] at g4
    injection g4 with g4
    injection g4 with g6 g7
    simp only [wayFrom]
    rw [longRes_step hc, h5]
    simp only [Option.map_some]
    congr 1
    unfold le2 at g5
    omega
theorem way_falls (hD : Short (arcs true l) t N D) (hl : ∀ e ∈ l, 0 ≤ e.b) : ∀ (k : Nat) (u w : Int), D u = some (w, (k : Int)) → ∀ i, i ≤ k → ∃ w', D (u :: wayFrom l D k u)[i]! = some (w', (k : Int) - i) := by
  intro k
  induction k with
  | zero => intro u w hu i hi; obtain rfl : i = 0 := by omega
            exact ⟨w, by simpa using hu⟩
  | succ k ih =>
    intro u w hu i hi
    cases i with
    | zero => exact ⟨w, by simpa using hu⟩
    | succ i =>
      obtain ⟨e, he, h1, h2, h3, h4⟩ := next_is hD hl hu (by omega)
      have h3' : D (nextOf l D u) = some (w - e.weight, (k : Int)) := by rw [h3]; congr 2; omega
      obtain ⟨w', h5⟩ := ih _ _ h3' i (by omega)
      refine ⟨w', ?_⟩
      have : (u :: wayFrom l D (k + 1) u)[i + 1]! = (nextOf l D u :: wayFrom l D k (nextOf l D u))[i]! := by simp [wayFrom]
      rw [this, h5]; congr 2; omega
theorem way_last (hD : Short (arcs true l) t N D) (hl : ∀ e ∈ l, 0 ≤ e.b) {k : Nat} {u w : Int} (hu : D u = some (w, (k : Int))) : (u :: wayFrom l D k u)[k]! = t := by
  obtain ⟨w', h⟩ := way_falls hD hl k u w hu k (Nat.le_refl _)
  rw [show (k : Int) - k = 0 by omega] at h
  exact (at_end hD h).1
theorem way_once (hD : Short (arcs true l) t N D) (hl : ∀ e ∈ l, 0 ≤ e.b) {k : Nat} {u w : Int} (hu : D u = some (w, (k : Int))) {i j : Nat} (hi : i ≤ k) (hj : j ≤ k) (h : (u :: wayFrom l D k u)[i]! = (u :: wayFrom l D k u)[j]!) : i = j := by
  obtain ⟨a, h1⟩ := way_falls hD hl k u w hu i hi
  obtain ⟨b, h2⟩ := way_falls hD hl k u w hu j hj
  rw [h, h2] at h1
  injection h1 with h1
  injection h1 with _ h1
  omega
theorem way_in (hD : Short (arcs true l) t N D) (hl : ∀ e ∈ l, 0 ≤ e.b) {k : Nat} {u w : Int} (hu : D u = some (w, (k : Int))) : ∀ x ∈ u :: wayFrom l D k u, 0 ≤ x ∧ x < N := by
  intro x hx
  obtain ⟨i, hi, rfl⟩ := List.getElem_of_mem hx
  have hik : i ≤ k := by simp [wayFrom_len] at hi; omega
  obtain ⟨w', h⟩ := way_falls hD hl k u w hu i hik
  rw [List.getElem!_eq_getElem?_getD, List.getElem?_eq_getElem hi] at h
  exact (hD.sound _ _ _ h).2.1
end
end Go.Proofs.YtmcfhiddhifdcaaDoor
