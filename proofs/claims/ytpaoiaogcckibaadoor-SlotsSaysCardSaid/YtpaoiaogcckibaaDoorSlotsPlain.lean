/- Plain: spans that share a room: who ends first first is best. Conditions: none. -/
import Derived.Test.YtpaoiaogcckibaaDoorPerm
namespace Go.Proofs.YtpaoiaogcckibaaDoor
abbrev Sp := Int × Int
def spAt (l : List Sp) (i : Int) : Sp := l.getD i.toNat (0, 1)
theorem spAt_nat {l : List Sp} {i : Nat} {x y : Int} (h : l[i]? = some (x, y)) : spAt l (i : Int) = (x, y) := by simp [spAt, h]
/-- those that are picked, one behind the other, from a time on -/
def pickL (l : List Sp) : List Int → Int → List Int
  | [], _ => []
  | i :: r, free => if free ≤ (spAt l i).1 then i :: pickL l r (spAt l i).2 else pickL l r free
def meetP (a b : Sp) : Prop := a.1 < b.2 ∧ b.1 < a.2
/-- each one is there, once, and no two have a time in common -/
def Apart (l : List Sp) (o : List Int) : Prop := (∀ i ∈ o, 0 ≤ i ∧ i < l.length) ∧ o.Pairwise fun a b => a ≠ b ∧ ¬ meetP (spAt l a) (spAt l b)
theorem pickL_sub (l : List Sp) : ∀ (ys : List Int) (free : Int), (pickL l ys free).Sublist ys := by
  intro ys
  induction ys with
  | nil => intro _; exact List.Sublist.refl _
  | cons i r ih =>
    intro free
    unfold pickL
    split
    · exact (ih _).cons_cons _
    · exact (ih _).cons _
theorem pickL_from (l : List Sp) : ∀ (ys : List Int) (free : Int), (∀ i ∈ ys, (spAt l i).1 < (spAt l i).2) → ∀ p ∈ pickL l ys free, free ≤ (spAt l p).1 := by
  intro ys
  induction ys with
  | nil => intro _ _ p hp; simp [pickL] at hp
  | cons i r ih =>
    intro free hw p hp
    unfold pickL at hp
    split at hp
    · next h =>
      rcases List.mem_cons.1 hp with rfl | hp
      · exact h
      · have h1 := ih _ (fun q hq => hw q (by simp [hq])) p hp
        have h2 := hw i (by simp)
        omega
    · exact ih _ (fun q hq => hw q (by simp [hq])) p hp
theorem pickL_apart (l : List Sp) : ∀ (ys : List Int) (free : Int), (∀ i ∈ ys, (spAt l i).1 < (spAt l i).2) → (pickL l ys free).Pairwise fun a b => (spAt l a).2 ≤ (spAt l b).1 := by
  intro ys
  induction ys with
  | nil => intro _ _; exact List.Pairwise.nil
  | cons i r ih =>
    intro free hw
    unfold pickL
    split
    · exact List.pairwise_cons.2 ⟨pickL_from l r _ (fun q hq => hw q (by simp [hq])), ih _ (fun q hq => hw q (by simp [hq]))⟩
    · exact ih _ (fun q hq => hw q (by simp [hq]))
theorem pickL_stab (l : List Sp) : ∀ (ys : List Int) (free : Int), ys.Pairwise (fun a b => (spAt l a).2 ≤ (spAt l b).2) → (∀ i ∈ ys, (spAt l i).1 < (spAt l i).2) →
    ∀ i ∈ ys, (spAt l i).1 < free ∨ ∃ p ∈ pickL l ys free, (spAt l i).1 < (spAt l p).2 ∧ (spAt l p).2 ≤ (spAt l i).2 := by
  intro ys
  induction ys with
  | nil => intro _ _ _ i hi; simp at hi
  | cons h r ih =>
    intro free hs hw i hi
    have hs' := List.pairwise_cons.1 hs
    have hh := hw h (by simp)
    unfold pickL
    split
    · next hf =>
      right
      rcases List.mem_cons.1 hi with rfl | hi
      · exact ⟨i, by simp, hh, Int.le_refl _⟩
      · rcases ih _ hs'.2 (fun q hq => hw q (by simp [hq])) i hi with h1 | ⟨p, h1, h2⟩
        · exact ⟨h, by simp, h1, hs'.1 i hi⟩
        · exact ⟨p, by simp [h1], h2⟩
    · next hf =>
      rcases List.mem_cons.1 hi with rfl | hi
      · left; omega
      · exact ih _ hs'.2 (fun q hq => hw q (by simp [hq])) i hi
/-- what the picking leaves: apart, and each span is seen at the last time of one of them -/
structure Picked (l : List Sp) (xs : List Int) : Prop where
  apart : Apart l xs
  stab : ∀ i : Int, 0 ≤ i → i < l.length → ∃ p ∈ xs, (spAt l i).1 < (spAt l p).2 ∧ (spAt l p).2 ≤ (spAt l i).2
theorem picked_of {l : List Sp} {ys : List Int} (hl : ∀ x ∈ l, (0 ≤ x.1 ∧ x.1 < x.2)) (ho : IsOrd l.length ys) (hs : ys.Pairwise fun a b => (spAt l a).2 ≤ (spAt l b).2) : Picked l (pickL l ys 0) := by
  have hat : ∀ i : Int, 0 ≤ i → i < l.length → 0 ≤ (spAt l i).1 ∧ (spAt l i).1 < (spAt l i).2 := fun i h0 h1 => by
    have hlt : i.toNat < l.length := by omega
    have e : spAt l i = l[i.toNat] := by simp [spAt, List.getD, hlt]
    rw [e]; exact hl _ (List.getElem_mem hlt)
  have hw : ∀ i ∈ ys, (spAt l i).1 < (spAt l i).2 := fun i hi => (hat i (ho.2.1 i hi).1 (ho.2.1 i hi).2).2
  have hsub := pickL_sub l ys 0
  refine ⟨⟨fun i hi => ho.2.1 i (hsub.mem hi), ?_⟩, fun i h0 h1 => ?_⟩
  · have h1 := pickL_apart l ys 0 hw
    have h2 := hsub.nodup ho.2.2
    have h3 := List.nodup_iff_pairwise_ne.1 h2
    exact (h3.and h1).imp fun ⟨hne, hle⟩ => ⟨hne, fun hm => by unfold meetP at hm; omega⟩
  · rcases pickL_stab l ys 0 hs hw i (ho.full i h0 h1) with h | h
    · have := (hat i h0 h1).1; omega
    · exact h
theorem Picked.most {l : List Sp} {xs o : List Int} (h : Picked l xs) (ho : Apart l o) : o.length ≤ xs.length := by
  have hex : ∀ i : Int, ∃ p : Int, (0 ≤ i ∧ i < l.length) → (p ∈ xs ∧ (spAt l i).1 < (spAt l p).2 ∧ (spAt l p).2 ≤ (spAt l i).2) := fun i => by
    by_cases hi : 0 ≤ i ∧ i < l.length
    · obtain ⟨p, h1, h2⟩ := h.stab i hi.1 hi.2
      exact ⟨p, fun _ => ⟨h1, h2⟩⟩
    · exact ⟨0, fun hh => absurd hh hi⟩
  obtain ⟨P, hP⟩ := Classical.axiomOfChoice hex
  have h1 := len_le_of_sub (o.map P) xs (by
    rw [List.nodup_iff_pairwise_ne, List.pairwise_map]
    refine List.Pairwise.imp_of_mem (fun {a b} ha hb hab e => ?_) ho.2
    have h1 := hP a (ho.1 a ha)
    have h2 := hP b (ho.1 b hb)
    rw [e] at h1
    exact hab.2 ⟨by omega, by omega⟩) (fun x hx => by
    obtain ⟨i, hi, rfl⟩ := List.mem_map.1 hx
    exact (hP i (ho.1 i hi)).1)
  rwa [List.length_map] at h1
/-- how many spans have a time -/
def cnt (l : List Sp) (t : Int) : Int := (l.filter fun x => decide (x.1 ≤ t ∧ t < x.2)).length
def deepUp (l : List Sp) : Nat → Int
  | 0 => 0
  | t + 1 => max (deepUp l t) (cnt l t)
def deepV (l : List Sp) : Int := deepUp l 1001
theorem cnt_snoc (l : List Sp) (x : Sp) (t : Int) : cnt (l ++ [x]) t = cnt l t + if x.1 ≤ t ∧ t < x.2 then 1 else 0 := by
  unfold cnt
  rw [List.filter_append, List.length_append]
  by_cases h : x.1 ≤ t ∧ t < x.2
  · rw [if_pos h]; simp [h]
  · rw [if_neg h]; simp [h]
theorem cnt_le (l : List Sp) (t : Int) : 0 ≤ cnt l t ∧ cnt l t ≤ l.length := by
  unfold cnt
  have := List.length_filter_le (fun x : Sp => decide (x.1 ≤ t ∧ t < x.2)) l
  omega
theorem deepUp_le (l : List Sp) : ∀ T, 0 ≤ deepUp l T ∧ deepUp l T ≤ l.length := by
  intro T
  induction T with
  | zero => simp [deepUp]
  | succ T ih => have := cnt_le l T; simp only [deepUp]; omega
theorem deepUp_more (l : List Sp) (x : Sp) : ∀ T, deepUp l T ≤ deepUp (l ++ [x]) T ∧ deepUp (l ++ [x]) T ≤ deepUp l T + 1 := by
  intro T
  induction T with
  | zero => simp [deepUp]
  | succ T ih =>
    simp only [deepUp, cnt_snoc]
    split <;> omega
theorem deepUp_at (l : List Sp) : ∀ T, deepUp l T = 0 ∨ ∃ t : Nat, t < T ∧ deepUp l T = cnt l t := by
  intro T
  induction T with
  | zero => left; rfl
  | succ T ih =>
    simp only [deepUp]
    rcases Int.le_total (deepUp l T) (cnt l T) with h | h
    · right; exact ⟨T, by omega, by omega⟩
    · rcases ih with h0 | ⟨t, h1, h2⟩
      · left; omega
      · right; exact ⟨t, by omega, by omega⟩
end Go.Proofs.YtpaoiaogcckibaaDoor
