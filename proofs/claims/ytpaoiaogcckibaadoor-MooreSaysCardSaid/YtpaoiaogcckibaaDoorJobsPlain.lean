/- Plain lemmas on jobs in an order: what they cost, how late they are. Conditions: times are not below 0. -/
import Derived.Test.YtpaoiaogcckibaaDoorTypes
namespace Go.Proofs.YtpaoiaogcckibaaDoor
def costFrom (now : Int) : List Job → Int
  | [] => 0
  | j :: l => (now + j.time) * j.weight + costFrom (now + j.time) l
def lateFrom (now worst : Int) : List Job → Int
  | [] => worst
  | j :: l => lateFrom (now + j.time) (max worst (now + j.time - j.due)) l
def sumT : List Job → Int
  | [] => 0
  | j :: l => j.time + sumT l
def sumW : List Job → Int
  | [] => 0
  | j :: l => j.weight + sumW l
/-- moved to the front: what one job costs less -/
theorem cost_front (x : Job) : ∀ (u v : List Job) (now : Int), (∀ y ∈ u, x.time * y.weight ≤ y.time * x.weight) →
    costFrom now (x :: (u ++ v)) ≤ costFrom now (u ++ x :: v) := by
  intro u
  induction u with
  | nil => intro v now _; simp
  | cons y u ih =>
    intro v now h
    have h1 := h y (by simp)
    have h2 := ih v (now + y.time) (fun z hz => h z (by simp [hz]))
    simp only [List.cons_append, costFrom] at h2 ⊢
    have e1 : (now + x.time) * x.weight + ((now + x.time + y.time) * y.weight + costFrom (now + x.time + y.time) (u ++ v)) ≤ (now + y.time) * y.weight + ((now + y.time + x.time) * x.weight + costFrom (now + y.time + x.time) (u ++ v)) := by
      rw [show now + x.time + y.time = now + y.time + x.time by omega]
      simp only [Int.add_mul]
      rw [show x.time * y.weight = x.time * y.weight from rfl]
      omega
    omega
theorem cost_best : ∀ (s : List Job), s.Pairwise (fun a b => a.time * b.weight ≤ b.time * a.weight) → ∀ (q : List Job) (now : Int), s.Perm q → costFrom now s ≤ costFrom now q := by
  intro s
  induction s with
  | nil => intro _ q now h; rw [List.nil_perm.1 h]; simp
  | cons x s ih =>
    intro hs q now hp
    have hx : x ∈ q := hp.mem_iff.1 (by simp)
    obtain ⟨u, v, rfl⟩ := List.append_of_mem hx
    have hp' : s.Perm (u ++ v) := (List.perm_cons x).1 (hp.trans List.perm_middle)
    have h1 := List.pairwise_cons.1 hs
    have h2 := ih h1.2 (u ++ v) (now + x.time) hp'
    have h3 := cost_front x u v now (fun y hy => h1.1 y (hp'.mem_iff.2 (by simp [hy])))
    simp only [costFrom] at h3 ⊢
    omega
/-! lateness -/
theorem late_mono : ∀ (l : List Job) (now a b : Int), a ≤ b → lateFrom now a l ≤ lateFrom now b l := by
  intro l
  induction l with
  | nil => intro now a b h; simpa [lateFrom] using h
  | cons j l ih => intro now a b h; simp only [lateFrom]; exact ih _ _ _ (by omega)
theorem late_ge : ∀ (l : List Job) (now a : Int), a ≤ lateFrom now a l := by
  intro l
  induction l with
  | nil => intro now a; simp [lateFrom]
  | cons j l ih => intro now a; simp only [lateFrom]; have := ih (now + j.time) (max a (now + j.time - j.due)); omega
theorem late_front (x : Job) : ∀ (u v : List Job) (now w : Int), (∀ y ∈ u, x.due ≤ y.due ∧ 0 ≤ x.time ∧ 0 ≤ y.time) →
    lateFrom now w (x :: (u ++ v)) ≤ lateFrom now w (u ++ x :: v) := by
  intro u
  induction u with
  | nil => intro v now w _; simp
  | cons y u ih =>
    intro v now w h
    have h1 := h y (by simp)
    have h2 := ih v (now + y.time) (max w (now + y.time - y.due)) (fun z hz => h z (by simp [hz]))
    simp only [List.cons_append, lateFrom] at h2 ⊢
    refine Int.le_trans ?_ h2
    rw [show now + x.time + y.time = now + y.time + x.time by omega]
    exact late_mono _ _ _ _ (by omega)
theorem late_best : ∀ (s : List Job), s.Pairwise (fun a b => a.due ≤ b.due) → ∀ (q : List Job) (now w : Int), (∀ y ∈ q, 0 ≤ y.time) → s.Perm q → lateFrom now w s ≤ lateFrom now w q := by
  intro s
  induction s with
  | nil => intro _ q now w _ h; rw [List.nil_perm.1 h]; simp
  | cons x s ih =>
    intro hs q now w ht hp
    have hx : x ∈ q := hp.mem_iff.1 (by simp)
    obtain ⟨u, v, rfl⟩ := List.append_of_mem hx
    have hp' : s.Perm (u ++ v) := (List.perm_cons x).1 (hp.trans List.perm_middle)
    have h1 := List.pairwise_cons.1 hs
    have h2 := ih h1.2 (u ++ v) (now + x.time) (max w (now + x.time - x.due)) (fun y hy => ht y (by simp at hy ⊢; rcases hy with h | h <;> simp [h])) hp'
    have h3 := late_front x u v now w (fun y hy => ⟨h1.1 y (hp'.mem_iff.2 (by simp [hy])), ht x (by simp), ht y (by simp [hy])⟩)
    simp only [lateFrom] at h3 ⊢
    omega
/-- an exchange of two neighbours: the one that is due later behind -/
theorem late_swap (u v : List Job) (x y : Job) (now w : Int) (h : x.due ≤ y.due) (hx : 0 ≤ x.time) (hy : 0 ≤ y.time) :
    lateFrom now w (u ++ x :: y :: v) ≤ lateFrom now w (u ++ y :: x :: v) := by
  induction u generalizing now w with
  | nil => exact late_front x [y] v now w (fun z hz => by simp at hz; subst hz; exact ⟨h, hx, hy⟩)
  | cons z u ih => simp only [List.cons_append, lateFrom]; exact ih _ _
theorem cost_swap (u v : List Job) (x y : Job) (now : Int) : costFrom now (u ++ y :: x :: v) - costFrom now (u ++ x :: y :: v) = y.time * x.weight - x.time * y.weight := by
  induction u generalizing now with
  | nil =>
    simp only [List.nil_append, costFrom]
    rw [show now + x.time + y.time = now + y.time + x.time by omega]
    simp only [Int.add_mul]; omega
  | cons z u ih => have := ih (now + z.time); simp only [List.cons_append, costFrom]; omega
theorem cost_shift (l : List Job) : ∀ (now : Int), costFrom now l = now * sumW l + costFrom 0 l := by
  induction l with
  | nil => intro now; simp [costFrom, sumW]
  | cons j l ih =>
    intro now
    have e1 := ih (now + j.time)
    have e2 := ih j.time
    simp only [costFrom, sumW, e1, Int.zero_add]; rw [e2]; simp only [Int.add_mul, Int.mul_add]; omega
theorem cost_snoc (l : List Job) (x : Job) : ∀ (now : Int), costFrom now (l ++ [x]) = costFrom now l + (now + sumT l + x.time) * x.weight := by
  induction l with
  | nil => intro now; simp [costFrom, sumT]
  | cons j l ih => intro now; simp only [List.cons_append, costFrom, sumT, ih]; rw [show now + (j.time + sumT l) + x.time = now + j.time + sumT l + x.time by omega]; omega
def alone : List Job → Int
  | [] => 0
  | j :: l => j.time * j.weight + alone l
theorem sumT_append (a b : List Job) : sumT (a ++ b) = sumT a + sumT b := by
  induction a with
  | nil => simp [sumT]
  | cons j a ih => simp only [List.cons_append, sumT, ih]; omega
theorem sumT_reverse (l : List Job) : sumT l.reverse = sumT l := by
  induction l with
  | nil => rfl
  | cons j l ih => simp only [List.reverse_cons, sumT_append, ih, sumT]; omega
theorem cost_reverse (l : List Job) : costFrom 0 l + costFrom 0 l.reverse = alone l + sumT l * sumW l := by
  induction l with
  | nil => rfl
  | cons j l ih =>
    simp only [List.reverse_cons, cost_snoc, sumT_reverse, costFrom, alone, sumT, sumW]
    rw [cost_shift l (0 + j.time)]
    simp only [Int.add_mul, Int.mul_add, Int.zero_add]
    omega
/-- all due later by one number -/
def later (by_ : Int) (j : Job) : Job := ⟨j.time, j.due + by_, j.weight⟩
theorem late_later (by_ : Int) (l : List Job) : ∀ (now w : Int), lateFrom now (w - by_) (l.map (later by_)) = lateFrom now w l - by_ := by
  induction l with
  | nil => intro now w; simp [lateFrom]
  | cons j l ih =>
    intro now w
    simp only [List.map_cons, lateFrom, later]
    rw [← ih]
    congr 1; omega
end Go.Proofs.YtpaoiaogcckibaaDoor
