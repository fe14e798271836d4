/- Plain: of all pairs the least heaviest edge, by way of more and more nodes. Conditions: none. -/
import Derived.Test.YtpaoiaogcckibaaDoorRefWalk
import Derived.Test.YtpaoiaogcckibaaDoorMostP
namespace Go.Proofs.YtpaoiaogcckibaaDoor
/-- with one node more on the way -/
def updN (k : Nat) (M : Nat → Nat → Int) (a b : Nat) : Int :=
  if (0 ≤ M a k ∧ 0 ≤ M k b) ∧ (M a b < 0 ∨ max (M a k) (M k b) < M a b) then max (M a k) (M k b) else M a b
def nar0 (l : List Edge) (a b : Nat) : Int := if a = b then 0 else stepV true l a b
def narK (l : List Edge) : Nat → Nat → Nat → Int
  | 0 => nar0 l
  | k + 1 => updN k (narK l k)
theorem updN_col (k : Nat) (M : Nat → Nat → Int) (a : Nat) : updN k M a k = M a k := by
  unfold updN
  split
  · next h => omega
  · rfl
theorem updN_row (k : Nat) (M : Nat → Nat → Int) (b : Nat) : updN k M k b = M k b := by
  unfold updN
  split
  · next h => omega
  · rfl
theorem step_true (l : List Edge) (a b : Int) : stepV true l a b = stepL l a b := by
  unfold stepV stepL
  have : stepG true a b = stepOn a b := by
    funext best e
    unfold stepG stepOn hitG
    by_cases h : (e.a = a ∧ e.b = b) ∨ (e.b = a ∧ e.a = b)
    · have h' : (e.a = a ∧ e.b = b) ∨ (true = true ∧ e.a = b ∧ e.b = a) := by
        rcases h with h | h
        · exact Or.inl h
        · exact Or.inr ⟨rfl, h.2, h.1⟩
      rw [if_pos (decide_eq_true h')]
      by_cases h2 : best < 0 ∨ e.weight < best
      · rw [if_pos h2, if_pos ⟨h, h2⟩]
      · rw [if_neg h2, if_neg (fun h3 => h2 h3.2)]
    · have h' : ¬ ((e.a = a ∧ e.b = b) ∨ (true = true ∧ e.a = b ∧ e.b = a)) := fun h3 => h (by
        rcases h3 with h3 | h3
        · exact Or.inl h3
        · exact Or.inr ⟨h3.2.2, h3.2.1⟩)
      rw [if_neg (by rw [decide_eq_true_eq]; exact h'), if_neg (fun h3 => h h3.1)]
  rw [this]
/-- there is a way, no heavier than m -/
def Reaches (M : Nat → Nat → Int) (m : Int) (a b : Nat) : Prop := 0 ≤ M a b ∧ M a b ≤ m
theorem reaches_updN {k : Nat} {M : Nat → Nat → Int} {m : Int} {a b : Nat} : Reaches (updN k M) m a b ↔ Reaches M m a b ∨ (Reaches M m a k ∧ Reaches M m k b) := by
  unfold Reaches updN
  split
  · next h => omega
  · next h => omega
theorem nar_trans (l : List Edge) (m : Int) : ∀ (k c : Nat), c < k → ∀ a b, Reaches (narK l k) m a c → Reaches (narK l k) m c b → Reaches (narK l k) m a b := by
  intro k
  induction k with
  | zero => intro c hc; omega
  | succ k ih =>
    intro c hc a b h1 h2
    simp only [narK] at h1 h2 ⊢
    rw [reaches_updN] at h1 h2 ⊢
    by_cases hck : c = k
    · subst hck
      have g1 : Reaches (narK l c) m a c := by
        rcases h1 with h | h
        · exact h
        · exact h.1
      have g2 : Reaches (narK l c) m c b := by
        rcases h2 with h | h
        · exact h
        · exact h.2
      exact Or.inr ⟨g1, g2⟩
    · have hck2 : c < k := by omega
      rcases h1 with h1 | ⟨h1, h1'⟩ <;> rcases h2 with h2 | ⟨h2, h2'⟩
      · exact Or.inl (ih c hck2 a b h1 h2)
      · exact Or.inr ⟨ih c hck2 a k h1 h2, h2'⟩
      · exact Or.inr ⟨h1, ih c hck2 k b h1' h2⟩
      · exact Or.inr ⟨h1, h2'⟩
theorem nar_keeps (l : List Edge) (m : Int) {a b : Nat} (h : Reaches (nar0 l) m a b) : ∀ k, Reaches (narK l k) m a b := by
  intro k
  induction k with
  | zero => exact h
  | succ k ih => exact reaches_updN.2 (Or.inl ih)
/-- what is told is a way -/
theorem nar_by {N : Nat} {l : List Edge} (hw : ∀ p ∈ l, 0 ≤ p.weight) : ∀ (k : Nat), k ≤ N → ∀ a b, a < N → b < N → 0 ≤ narK l k a b → By N l (narK l k a b) a b := by
  intro k
  induction k with
  | zero =>
    intro _ a b ha hb h
    simp only [narK, nar0] at h ⊢
    split
    · next e => subst e; exact By.refl
    · next e =>
      rw [if_neg e, step_true] at h
      rw [step_true]
      obtain ⟨e, he, h1, h2⟩ := step_edge h
      have := By.edge (N := N) he (Int.le_of_eq h1) h2 (by omega) (by omega)
      simpa using this
  | succ k ih =>
    intro hk a b ha hb h
    simp only [narK] at h ⊢
    unfold updN at h ⊢
    split
    · next hc =>
      have h1 := ih (by omega) a k ha (by omega) hc.1.1
      have h2 := ih (by omega) k b (by omega) hb hc.1.2
      exact (h1.up (by omega)).trans (h2.up (by omega))
    · next hc =>
      rw [if_neg hc] at h
      exact ih (by omega) a b ha hb h
theorem step_least {l : List Edge} (hw : ∀ e ∈ l, 0 ≤ e.weight) {a b : Int} {e : Edge} (he : e ∈ l) (hc : (e.a = a ∧ e.b = b) ∨ (e.b = a ∧ e.a = b)) : 0 ≤ stepL l a b ∧ stepL l a b ≤ e.weight := by
  have key : ∀ (l : List Edge) (best : Int), (∀ e ∈ l, 0 ≤ e.weight) → (0 ≤ best → (0 ≤ l.foldl (stepOn a b) best ∧ l.foldl (stepOn a b) best ≤ best)) ∧ (∀ e ∈ l, (e.a = a ∧ e.b = b) ∨ (e.b = a ∧ e.a = b) → 0 ≤ l.foldl (stepOn a b) best ∧ l.foldl (stepOn a b) best ≤ e.weight) := by
    intro l
    induction l with
    | nil => intro best _; exact ⟨fun h => ⟨h, Int.le_refl _⟩, fun e he => by simp at he⟩
    | cons x l ih =>
      intro best hw
      have hx := hw x (by simp)
      obtain ⟨i1, i2⟩ := ih (stepOn a b best x) (fun e he => hw e (by simp [he]))
      rw [List.foldl_cons]
      constructor
      · intro hb
        have h1 : 0 ≤ stepOn a b best x ∧ stepOn a b best x ≤ best := by
          unfold stepOn
          split
          · next h => omega
          · omega
        have := i1 h1.1
        omega
      · intro e he hc
        rcases List.mem_cons.1 he with rfl | he
        · have h1 : 0 ≤ stepOn a b best e ∧ stepOn a b best e ≤ e.weight := by
            unfold stepOn
            by_cases h2 : best < 0 ∨ e.weight < best
            · rw [if_pos ⟨hc, h2⟩]; omega
            · rw [if_neg (fun h => h2 h.2)]; omega
          have := i1 h1.1
          omega
        · exact i2 e he hc
  exact (key l (-1) hw).2 e he hc
/-- and none is lighter -/
theorem nar_least {N : Nat} {l : List Edge} (hed : ∀ p ∈ l, (0 ≤ p.a ∧ p.a ≤ (N : Int) - 1) ∧ (0 ≤ p.b ∧ p.b ≤ (N : Int) - 1) ∧ (0 ≤ p.weight ∧ p.weight ≤ 1000)) {m : Int} (hm : 0 ≤ m) {a b : Nat} (ha : a < N) (hb : b < N) (h : By N l m a b) : Reaches (narK l N) m a b := by
  have hself : ∀ x, Reaches (narK l N) m x x := fun x => nar_keeps l m (by unfold Reaches nar0; rw [if_pos rfl]; omega) N
  have hedge : ∀ u v : Nat, u < N → v < N → ((u : Int), (v : Int)) ∈ lightE m l → Reaches (narK l N) m u v ∧ Reaches (narK l N) m v u := fun u v hu hv hE => by
    obtain ⟨e, he, h1, h2, h3⟩ := mem_lightE.1 hE
    have hw : ∀ e ∈ l, 0 ≤ e.weight := fun e he => (hed e he).2.2.1
    have go : ∀ x y : Nat, ((e.a = x ∧ e.b = y) ∨ (e.b = x ∧ e.a = y)) → Reaches (narK l N) m x y := fun x y hc => by
      refine nar_keeps l m ?_ N
      unfold Reaches nar0
      by_cases hxy : x = y
      · rw [if_pos hxy]; omega
      · rw [if_neg hxy, step_true]
        have := step_least hw he hc
        omega
    exact ⟨go u v (Or.inl ⟨h2, h3⟩), go v u (Or.inr ⟨h3, h2⟩)⟩
  have h1 := h (fun y => if y < N ∧ 0 ≤ narK l N a y ∧ narK l N a y ≤ m then 1 else 0) (fun u v hu hv hE => by
    obtain ⟨g1, g2⟩ := hedge u v hu hv hE
    have : (0 ≤ narK l N a u ∧ narK l N a u ≤ m) ↔ (0 ≤ narK l N a v ∧ narK l N a v ≤ m) :=
      ⟨fun h => nar_trans l m N u hu a v h g1, fun h => nar_trans l m N v hv a u h g2⟩
    simp only [hu, hv, true_and, this])
  have h2 := hself a
  unfold Reaches at h2
  rw [if_pos ⟨ha, h2.1, h2.2⟩] at h1
  by_cases hc : b < N ∧ 0 ≤ narK l N a b ∧ narK l N a b ≤ m
  · exact hc.2
  · rw [if_neg hc] at h1; cases h1
theorem nar_is {N : Nat} {l : List Edge} (hg : graphErr N l = 0) {a b : Nat} (ha : a < N) (hb : b < N) : (0 ≤ narK l N a b ∧ By N l (narK l N a b) a b ∧ ∀ m, 0 ≤ m → By N l m a b → narK l N a b ≤ m) ∨ (narK l N a b < 0 ∧ ∀ m, 0 ≤ m → ¬ By N l m a b) := by
  obtain ⟨_, _, hed⟩ := graphErr_ok hg
  rcases Int.lt_or_le (narK l N a b) 0 with h | h
  · exact Or.inr ⟨h, fun m hm hby => by have := nar_least hed hm ha hb hby; unfold Reaches at this; omega⟩
  · exact Or.inl ⟨h, nar_by (fun p hp => (hed p hp).2.2.1) N (Nat.le_refl _) a b ha hb h, fun m hm hby => (nar_least hed hm ha hb hby).2⟩
end Go.Proofs.YtpaoiaogcckibaaDoor
