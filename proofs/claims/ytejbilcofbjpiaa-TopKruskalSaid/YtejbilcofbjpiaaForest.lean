/- Plain: what edges join, how many pieces they leave, and the forest of the lightest ones. Conditions: none. -/
import Derived.Test.YtejbilcofbjpiaaUnionGen
import Derived.Test.YtejbilcofbjpiaaPerm
namespace Go.Proofs.Ytejbilcofbjpiaa
/-- joined by pairs -/
def Conn (n : Nat) (E : List (Int × Int)) (x y : Nat) : Prop := ∀ f : Nat → Nat, Resp n E f → f x = f y
theorem Conn.refl (n : Nat) (E : List (Int × Int)) (x : Nat) : Conn n E x x := fun _ _ => rfl
theorem Conn.symm {n : Nat} {E : List (Int × Int)} {x y : Nat} (h : Conn n E x y) : Conn n E y x := fun f hf => (h f hf).symm
theorem Conn.trans {n : Nat} {E : List (Int × Int)} {x y z : Nat} (h : Conn n E x y) (h2 : Conn n E y z) : Conn n E x z := fun f hf => (h f hf).trans (h2 f hf)
theorem Conn.of {n : Nat} {E E' : List (Int × Int)} {x y : Nat} (h : Conn n E x y) (hs : ∀ a b : Nat, a < n → b < n → ((a : Int), (b : Int)) ∈ E → Conn n E' a b) : Conn n E' x y :=
  fun f hf => h f fun a b ha hb hm => hs a b ha hb hm f hf
theorem Conn.pair {n : Nat} {E : List (Int × Int)} {a b : Nat} (ha : a < n) (hb : b < n) (h : ((a : Int), (b : Int)) ∈ E) : Conn n E a b := fun _ hf => hf a b ha hb h
theorem Conn.mono {n : Nat} {E E' : List (Int × Int)} {x y : Nat} (h : Conn n E x y) (hs : ∀ p ∈ E, p ∈ E') : Conn n E' x y :=
  h.of fun _ _ ha hb hm => Conn.pair ha hb (hs _ hm)
theorem Gen.conn {n : Nat} {E : List (Int × Int)} {R : Nat → Nat} (h : Gen n E R) {x y : Nat} (hx : x < n) (hy : y < n) : R x = R y ↔ Conn n E x y :=
  ⟨fun e f hf => by rw [h.least f hf x hx, h.least f hf y hy, e], fun hc => hc R h.resp⟩
/-- so many pieces are left -/
def Pcs (n : Nat) (E : List (Int × Int)) (m : Nat) : Prop := ∃ R, Gen n E R ∧ (∀ x, x < n → R x < n) ∧ (∀ x, x < n → R (R x) = R x) ∧ roots n R = m
theorem Pcs.uniq {n : Nat} {E E' : List (Int × Int)} {m m' : Nat} (h : Pcs n E m) (h' : Pcs n E' m') (hc : ∀ x y, x < n → y < n → (Conn n E x y ↔ Conn n E' x y)) : m = m' := by
  obtain ⟨R, g, hl, hi, rfl⟩ := h
  obtain ⟨R', g', hl', hi', rfl⟩ := h'
  have hk : ∀ x y, x < n → y < n → (R x = R y ↔ R' x = R' y) := fun x y hx hy => by rw [g.conn hx hy, g'.conn hx hy, hc x y hx hy]
  have h1 := firsts_roots hl hi
  have h2 := firsts_roots hl' hi'
  have h3 := (groups_same hk n (Nat.le_refl _)).1
  have h4 := congrArg List.length h3
  simp only [groupsOf, List.length_map] at h4
  unfold roots; omega
theorem Pcs.start (n : Nat) : Pcs n [] n := ⟨id, Gen.start n, fun _ h => h, fun _ _ => rfl, roots_id n⟩
theorem Pcs.one {n : Nat} {E : List (Int × Int)} {m a b : Nat} (h : Pcs n E m) (ha : a < n) (hb : b < n) :
    (Conn n E a b → Pcs n (E ++ [((a : Int), (b : Int))]) m) ∧ (¬ Conn n E a b → ∃ q, Pcs n (E ++ [((a : Int), (b : Int))]) q ∧ q + 1 = m) := by
  obtain ⟨R, g, hl, hi, rfl⟩ := h
  constructor
  · intro hc
    exact ⟨R, g.same ((g.conn ha hb).2 hc), hl, hi, rfl⟩
  · intro hc
    have hne : R a ≠ R b := fun e => hc ((g.conn ha hb).1 e)
    have h1 := g.link ha hb (fun x hx => hl x hx) (R a) (R b) (Or.inl ⟨rfl, rfl⟩)
    refine ⟨_, ⟨_, h1, fun x hx => ?_, fun x hx => ?_, rfl⟩, roots_link (hl b hb) (hi a ha) (hi b hb) hne⟩
    · unfold link; split
      · exact hl a ha
      · exact hl x hx
    · unfold link
      by_cases e : R x = R b
      · rw [if_pos e, hi a ha]; rw [if_neg hne]
      · rw [if_neg e, hi x hx, if_neg e]
section
variable {n : Nat} {e : Int → Int × Int}
/-- the ends of each are things -/
def Ends (n : Nat) (e : Int → Int × Int) (l : List Int) : Prop := ∀ i ∈ l, (0 ≤ (e i).1 ∧ (e i).1 < n) ∧ (0 ≤ (e i).2 ∧ (e i).2 < n)
/-- the ends of an edge are joined by edges -/
def Tied (n : Nat) (e : Int → Int × Int) (l : List Int) (i : Int) : Prop := Conn n (l.map e) (e i).1.toNat (e i).2.toNat
theorem ends_cast {l : List Int} (h : Ends n e l) {i : Int} (hi : i ∈ l) : (((e i).1.toNat : Int), ((e i).2.toNat : Int)) = e i ∧ (e i).1.toNat < n ∧ (e i).2.toNat < n := by
  have := h i hi
  refine ⟨?_, by omega, by omega⟩
  rw [show ((e i).1.toNat : Int) = (e i).1 by omega, show ((e i).2.toNat : Int) = (e i).2 by omega]
theorem Tied.self {l : List Int} (h : Ends n e l) {i : Int} (hi : i ∈ l) : Tied n e l i := by
  obtain ⟨h1, h2, h3⟩ := ends_cast h hi
  exact Conn.pair h2 h3 (by rw [h1]; exact List.mem_map.2 ⟨i, hi, rfl⟩)
theorem conn_tied {l l' : List Int} {x y : Nat} (h : Conn n (l.map e) x y) (hs : ∀ i ∈ l, Tied n e l' i) : Conn n (l'.map e) x y :=
  h.of fun a b _ _ hm => by
    obtain ⟨i, hi, hq⟩ := List.mem_map.1 hm
    have := hs i hi
    unfold Tied at this
    rw [hq] at this
    simpa using this
theorem Tied.mono {l l' : List Int} {i : Int} (h : Tied n e l i) (hs : ∀ j ∈ l, j ∈ l') : Tied n e l' i :=
  Conn.mono h fun p hp => by obtain ⟨j, hj, rfl⟩ := List.mem_map.1 hp; exact List.mem_map.2 ⟨j, hs j hj, rfl⟩
theorem Tied.of {l l' : List Int} {i : Int} (h : Tied n e l i) (hs : ∀ j ∈ l, Tied n e l' j) : Tied n e l' i := conn_tied h hs
theorem Pcs.edge {l : List Int} {i : Int} {m : Nat} (h : Pcs n (l.map e) m) (hi : Ends n e [i]) :
    (Tied n e l i → Pcs n ((l ++ [i]).map e) m) ∧ (¬ Tied n e l i → ∃ q, Pcs n ((l ++ [i]).map e) q ∧ q + 1 = m) := by
  obtain ⟨h1, h2, h3⟩ := ends_cast hi (by simp : i ∈ [i])
  have := h.one h2 h3
  rw [h1] at this
  rw [List.map_append]
  exact this
theorem Pcs.more {l : List Int} {m : Nat} (h : Pcs n (l.map e) m) : ∀ (r : List Int), Ends n e r → ∃ q, Pcs n ((l ++ r).map e) q ∧ q ≤ m ∧ m ≤ q + r.length := by
  intro r
  induction r generalizing l m with
  | nil => intro _; exact ⟨m, by simpa using h, Nat.le_refl _, by simp⟩
  | cons i r ih =>
    intro hr
    have hi : Ends n e [i] := fun j hj => by simp at hj; subst hj; exact hr j (by simp)
    have hr' : Ends n e r := fun j hj => hr j (by simp [hj])
    obtain ⟨h1, h2⟩ := h.edge hi
    rw [show l ++ i :: r = (l ++ [i]) ++ r by simp]
    by_cases hc : Tied n e l i
    · obtain ⟨q, h3, h4, h5⟩ := ih (h1 hc) hr'
      exact ⟨q, h3, h4, by simp; omega⟩
    · obtain ⟨q1, h6, h7⟩ := h2 hc
      obtain ⟨q, h3, h4, h5⟩ := ih h6 hr'
      exact ⟨q, h3, by omega, by simp; omega⟩
theorem pcs_ex {l : List Int} (h : Ends n e l) : ∃ m, Pcs n (l.map e) m ∧ m ≤ n ∧ n ≤ m + l.length := by
  have := (Pcs.start n)
  have h2 : Pcs n (([] : List Int).map e) n := this
  simpa using h2.more l h
theorem Pcs.perm {E E' : List (Int × Int)} {m : Nat} (h : Pcs n E m) (hp : ∀ p, p ∈ E ↔ p ∈ E') : Pcs n E' m := by
  obtain ⟨R, g, hl, hi, hr⟩ := h
  exact ⟨R, ⟨fun a b ha hb hm => g.resp a b ha hb ((hp _).2 hm), fun f hf => g.least f fun a b ha hb hm => hf a b ha hb ((hp _).1 hm)⟩, hl, hi, hr⟩
/-- each edge of the order is taken just if the ones ahead of it do not join its ends -/
def IsForest (n : Nat) (e : Int → Int × Int) (o : List Int) (t : Int → Bool) : Prop := ∀ k i, o[k]? = some i → (t i = true ↔ ¬ Tied n e (o.take k) i)
theorem IsForest.upto {o : List Int} {t : Int → Bool} (h : IsForest n e o t) (he : Ends n e o) : ∀ k, k ≤ o.length →
    (∀ i, Tied n e (o.take k) i → Tied n e ((o.take k).filter t) i) ∧ ∃ m, Pcs n ((o.take k).map e) m ∧ ((o.take k).filter t).length + m = n := by
  intro k
  induction k with
  | zero => intro _; exact ⟨fun i hi => by simpa using hi, n, by simpa using Pcs.start n, by simp⟩
  | succ k ih =>
    intro hk
    obtain ⟨h1, m, h2, h3⟩ := ih (by omega)
    obtain ⟨i, hi⟩ : ∃ i, o[k]? = some i := ⟨o[k], List.getElem?_eq_getElem (by omega)⟩
    have e1 : o.take (k + 1) = o.take k ++ [i] := by rw [List.take_add_one, hi]; rfl
    have hei : Ends n e [i] := fun j hj => by simp at hj; subst hj; exact he j (List.mem_of_getElem? hi)
    have heT : Ends n e (o.take (k + 1)) := fun j hj => he j (List.mem_of_mem_take hj)
    obtain ⟨p1, p2⟩ := h2.edge hei
    have ht := h k i hi
    rw [e1, List.filter_append]
    by_cases hc : Tied n e (o.take k) i
    · have htf : t i = false := by
        cases hb : t i with
        | false => rfl
        | true => exact absurd hc (ht.1 hb)
      have e2 : [i].filter t = [] := by simp [htf]
      rw [e2, List.append_nil]
      refine ⟨fun j hj => ?_, m, p1 hc, h3⟩
      refine Tied.of hj fun q hq => ?_
      rcases List.mem_append.1 hq with hq | hq
      · exact h1 q (Tied.self (fun j hj => he j (List.mem_of_mem_take hj)) hq)
      · simp at hq; subst hq; exact h1 q hc
    · have htt : t i = true := ht.2 hc
      have e2 : [i].filter t = [i] := by simp [htt]
      rw [e2]
      obtain ⟨q, q1, q2⟩ := p2 hc
      refine ⟨fun j hj => ?_, q, q1, by simp; omega⟩
      refine Tied.of hj fun q hq => ?_
      rcases List.mem_append.1 hq with hq | hq
      · exact (h1 q (Tied.self (fun j hj => he j (List.mem_of_mem_take hj)) hq)).mono fun a ha => List.mem_append.2 (Or.inl ha)
      · simp at hq; subst hq
        exact Tied.self (l := ((o.take k).filter t) ++ [q]) (fun j hj => by
          rcases List.mem_append.1 hj with hj | hj
          · exact he j (List.mem_of_mem_take (List.mem_filter.1 hj).1)
          · exact hei j hj) (by simp)
theorem IsForest.whole {o : List Int} {t : Int → Bool} (h : IsForest n e o t) (he : Ends n e o) :
    (∀ i, Tied n e o i → Tied n e (o.filter t) i) ∧ ∃ m, Pcs n (o.map e) m ∧ (o.filter t).length + m = n := by
  have := h.upto he o.length (Nat.le_refl _)
  rw [List.take_length] at this; exact this
/-- the lightest edge out of a set is in the forest -/
theorem IsForest.cut {o : List Int} {t : Int → Bool} (h : IsForest n e o t) (_he : Ends n e o) (S : Nat → Bool) {k : Nat} {i : Int} (hi : o[k]? = some i) (hc : S (e i).1.toNat ≠ S (e i).2.toNat)
    (hl : ∀ j ∈ o.take k, S (e j).1.toNat = S (e j).2.toNat) : t i = true := by
  refine (h k i hi).2 fun hT => ?_
  have := hT (fun x => if S x = true then 1 else 0) fun a b _ _ hm => by
    obtain ⟨j, hj, hq⟩ := List.mem_map.1 hm
    have := hl j hj
    rw [hq] at this
    simp at this
    simp only [this]
  apply hc
  revert this
  cases S (e i).1.toNat <;> cases S (e i).2.toNat <;> simp
/-- edges of the forest that join all that is joined are all of it -/
theorem IsForest.full {o I : List Int} {t : Int → Bool} (h : IsForest n e o t) (he : Ends n e o) (_hn : o.Nodup) (hI : ∀ i ∈ I, i ∈ o ∧ t i = true) (hIn : I.Nodup) (hj : ∀ i ∈ o, Tied n e I i) : ∀ i ∈ o, t i = true → i ∈ I := by
  intro i hi ht
  apply Classical.byContradiction
  intro hni
  obtain ⟨_, m, hm, hcnt⟩ := h.whole he
  have heI : Ends n e I := fun j hj => he j (hI j hj).1
  obtain ⟨q, hq, hq1, hq2⟩ := pcs_ex heI
  have hqm : q = m := hq.uniq hm fun x y _ _ =>
    ⟨fun hc => hc.mono fun p hp => by obtain ⟨j, hj, rfl⟩ := List.mem_map.1 hp; exact List.mem_map.2 ⟨j, (hI j hj).1, rfl⟩, fun hc => conn_tied hc hj⟩
  have hlt : (i :: I).length ≤ (o.filter t).length := len_le_of_sub _ _ (List.nodup_cons.2 ⟨hni, hIn⟩) fun j hj => by
    rcases List.mem_cons.1 hj with rfl | hj
    · exact List.mem_filter.2 ⟨hi, by simpa using ht⟩
    · exact List.mem_filter.2 ⟨(hI j hj).1, by simpa using (hI j hj).2⟩
  simp at hlt
  omega
/-! weights -/
def sumB (w : Int → Int) (l : List Int) : Int := (l.map w).sum
def over (w : Int → Int) (t : Int) (l : List Int) : Nat := (l.filter fun i => decide (t < w i)).length
theorem sum_over (w : Int → Int) (l : List Int) : ∀ M : Nat, (∀ i ∈ l, 0 ≤ w i ∧ w i ≤ M) → sumB w l = ((List.range M).map fun (t : Nat) => (over w t l : Int)).sum := by
  induction l with
  | nil =>
    intro M _
    have : ∀ k : List Nat, (k.map fun (t : Nat) => (over w t [] : Int)).sum = 0 := fun k => by
      induction k with
      | nil => rfl
      | cons x k ih => simp only [List.map_cons, List.sum_cons, ih]; rfl
    rw [this]; rfl
  | cons i l ih =>
    intro M hM
    have h1 := hM i (by simp)
    have h2 := ih M fun j hj => hM j (by simp [hj])
    have h3 : ∀ k : List Nat, (k.map fun (t : Nat) => (over w t (i :: l) : Int)).sum = (k.map fun (t : Nat) => (over w t l : Int)).sum + ((k.filter fun (t : Nat) => decide ((t : Int) < w i)).length : Int) := fun k => by
      induction k with
      | nil => rfl
      | cons x k ihk =>
        simp only [List.map_cons, List.sum_cons, ihk]
        unfold over
        by_cases hx : (x : Int) < w i
        · rw [List.filter_cons_of_pos (by simpa using hx), List.filter_cons_of_pos (by simpa using hx)]
          simp only [List.length_cons]; omega
        · rw [List.filter_cons_of_neg (by simpa using hx), List.filter_cons_of_neg (by simpa using hx)]
          omega
    have h4 : ∀ m : Nat, ((List.range m).filter fun (t : Nat) => decide ((t : Int) < w i)).length = min m (w i).toNat := fun m => by
      induction m with
      | zero => simp
      | succ m ihm =>
        rw [List.range_succ, List.filter_append, List.length_append, ihm]
        by_cases hx : (m : Int) < w i
        · rw [List.filter_cons_of_pos (by simpa using hx)]; simp; omega
        · rw [List.filter_cons_of_neg (by simpa using hx)]; simp; omega
    rw [h3, ← h2, h4]
    simp only [sumB, List.map_cons, List.sum_cons]
    omega
theorem sum_le_over (w : Int → Int) (a b : List Int) (M : Nat) (ha : ∀ i ∈ a, 0 ≤ w i ∧ w i ≤ M) (hb : ∀ i ∈ b, 0 ≤ w i ∧ w i ≤ M) (h : ∀ t : Nat, over w t a ≤ over w t b) : sumB w a ≤ sumB w b := by
  rw [sum_over w a M ha, sum_over w b M hb]
  have : ∀ k : List Nat, (k.map fun (t : Nat) => (over w t a : Int)).sum ≤ (k.map fun (t : Nat) => (over w t b : Int)).sum := fun k => by
    induction k with
    | nil => exact Int.le_refl _
    | cons x k ih => have := h x; simp only [List.map_cons, List.sum_cons]; omega
  exact this _
/-- in an order by weight the ones that are no heavier are a beginning -/
theorem light_take (w : Int → Int) (t : Int) : ∀ o : List Int, o.Pairwise (fun i j => w i ≤ w j) → ∃ k, k ≤ o.length ∧ o.filter (fun i => decide (w i ≤ t)) = o.take k := by
  intro o
  induction o with
  | nil => intro _; exact ⟨0, by simp, rfl⟩
  | cons x o ih =>
    intro ho
    have h1 := List.pairwise_cons.1 ho
    by_cases hx : w x ≤ t
    · obtain ⟨k, hk, e1⟩ := ih h1.2
      refine ⟨k + 1, by simp; omega, ?_⟩
      rw [List.filter_cons_of_pos (by simpa using hx), e1]; rfl
    · refine ⟨0, by simp, ?_⟩
      rw [List.filter_cons_of_neg (by simpa using hx)]
      simp
      intro j hj
      have := h1.1 j hj; omega
theorem over_split (w : Int → Int) (t : Int) (l : List Int) : over w t l + (l.filter fun i => decide (w i ≤ t)).length = l.length := by
  unfold over
  induction l with
  | nil => rfl
  | cons x l ih =>
    by_cases hx : t < w x
    · rw [List.filter_cons_of_pos (by simpa using hx), List.filter_cons_of_neg (by simp; omega)]
      simp only [List.length_cons]; omega
    · rw [List.filter_cons_of_neg (by simpa using hx), List.filter_cons_of_pos (by simp; omega)]
      simp only [List.length_cons]; omega
/-- no edges that join all weigh less -/
theorem IsForest.least {o H : List Int} {t : Int → Bool} {w : Int → Int} (h : IsForest n e o t) (he : Ends n e o) (ho : o.Pairwise (fun i j => w i ≤ w j)) (M : Nat) (hw : ∀ i ∈ o, 0 ≤ w i ∧ w i ≤ M)
    (hH : ∀ i ∈ H, i ∈ o) (hj : ∀ i ∈ o, Tied n e H i) : sumB w (o.filter t) ≤ sumB w H := by
  refine sum_le_over w _ _ M (fun i hi => hw i (List.mem_filter.1 hi).1) (fun i hi => hw i (hH i hi)) fun b => ?_
  obtain ⟨k, hk, ek⟩ := light_take w b o ho
  obtain ⟨_, m, hm, hcnt⟩ := h.whole he
  obtain ⟨_, q, hq, hqc⟩ := h.upto he k hk
  have heH : Ends n e H := fun j hj => he j (hH j hj)
  -- the light ones of H leave no fewer pieces than all light ones
  have heL : Ends n e (H.filter fun i => decide (w i ≤ b)) := fun j hj => heH j (List.mem_filter.1 hj).1
  have heO : Ends n e (H.filter fun i => decide (b < w i)) := fun j hj => heH j (List.mem_filter.1 hj).1
  obtain ⟨r, hr, _, _⟩ := pcs_ex heL
  obtain ⟨r2, hr2, h1, h2⟩ := hr.more _ heO
  have e1 : r2 = m := hr2.uniq hm fun x y _ _ => by
    constructor
    · intro hc
      refine hc.mono fun p hp => ?_
      obtain ⟨j, hj, rfl⟩ := List.mem_map.1 hp
      refine List.mem_map.2 ⟨j, ?_, rfl⟩
      rcases List.mem_append.1 hj with hj | hj <;> exact hH j (List.mem_filter.1 hj).1
    · intro hc
      refine conn_tied hc fun j hjo => (hj j hjo).mono fun i hi => ?_
      by_cases hx : w i ≤ b
      · exact List.mem_append.2 (Or.inl (List.mem_filter.2 ⟨hi, by simpa using hx⟩))
      · exact List.mem_append.2 (Or.inr (List.mem_filter.2 ⟨hi, by simp; omega⟩))
  have heT : Ends n e (o.take k) := fun j hj => he j (List.mem_of_mem_take hj)
  obtain ⟨r3, hr3, h3, _⟩ := hr.more _ heT
  have e2 : r3 = q := hr3.uniq hq fun x y _ _ => by
    constructor
    · intro hc
      refine hc.mono fun p hp => ?_
      obtain ⟨j, hj, rfl⟩ := List.mem_map.1 hp
      refine List.mem_map.2 ⟨j, ?_, rfl⟩
      rcases List.mem_append.1 hj with hj | hj
      · have h5 := List.mem_filter.1 hj
        rw [← ek]
        exact List.mem_filter.2 ⟨hH j h5.1, h5.2⟩
      · exact hj
    · intro hc
      exact hc.mono fun p hp => by obtain ⟨j, hj, rfl⟩ := List.mem_map.1 hp; exact List.mem_map.2 ⟨j, List.mem_append.2 (Or.inr hj), rfl⟩
  have h6 := over_split w b (o.filter t)
  have h7 : (o.filter t).filter (fun i => decide (w i ≤ b)) = (o.take k).filter t := by
    rw [← ek, List.filter_filter, List.filter_filter]
    exact List.filter_congr fun i _ => Bool.and_comm _ _
  rw [h7] at h6
  have h8 : over w b H = (H.filter fun i => decide (b < w i)).length := rfl
  omega
end
end Go.Proofs.Ytejbilcofbjpiaa
