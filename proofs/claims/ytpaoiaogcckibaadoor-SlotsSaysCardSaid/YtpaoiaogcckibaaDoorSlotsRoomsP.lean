/- Plain: who comes first takes the first free room: no two meet in a room, and no room is too many. Conditions: none. -/
import Derived.Test.YtpaoiaogcckibaaDoorSlotsOtherP
namespace Go.Proofs.YtpaoiaogcckibaaDoor
/-- the first room that is free by x (as many as there are: none) -/
def fit (x : Int) : List Int → Nat
  | [] => 0
  | t :: r => if t ≤ x then 0 else fit x r + 1
theorem fit_le (x : Int) : ∀ fr : List Int, fit x fr ≤ fr.length := by
  intro fr
  induction fr with
  | nil => exact Nat.le_refl _
  | cons t r ih => simp only [fit]; split <;> simp <;> omega
theorem fit_old (x : Int) : ∀ (fr : List Int) (r : Nat), r < fr.length → fr[r]! ≤ x → (∀ t : Nat, t < r → x < fr[t]!) → fit x fr = r := by
  intro fr
  induction fr with
  | nil => intro r h; simp at h
  | cons t fr ih =>
    intro r hr h1 h2
    cases r with
    | zero => simp only [fit]; rw [if_pos (by simpa using h1)]
    | succ r =>
      simp only [fit]
      rw [if_neg (by have := h2 0 (by omega); simp at this; omega), ih r (by simpa using hr) (by simpa using h1) (fun q hq => by have := h2 (q + 1) (by omega); simpa using this)]
theorem fit_new (x : Int) : ∀ (fr : List Int), (∀ t : Nat, t < fr.length → x < fr[t]!) → fit x fr = fr.length := by
  intro fr
  induction fr with
  | nil => intro _; rfl
  | cons t fr ih =>
    intro h
    simp only [fit]
    rw [if_neg (by have := h 0 (by simp); simp at this; omega), ih (fun q hq => by have := h (q + 1) (by simpa using hq); simpa using this)]; rfl
/-- one span more: the first room that is free, or a new one -/
def stepR (l : List Sp) (s : List Int × List Int) (i : Int) : List Int × List Int :=
  let r := fit (spAt l i).1 s.2
  (s.1.set i.toNat (r : Int), if r < s.2.length then s.2.set r (spAt l i).2 else s.2 ++ [(spAt l i).2])
def roomsR (l : List Sp) (ys : List Int) : List Int × List Int := ys.foldl (stepR l) (List.replicate l.length 0, [])
theorem roomsR_snoc (l : List Sp) (ys : List Int) (i : Int) : roomsR l (ys ++ [i]) = stepR l (roomsR l ys) i := by unfold roomsR; rw [List.foldl_append]; rfl
/-- so far: the spans of ys have rooms o, each room's last time is in fr -/
structure RoomsTo (l : List Sp) (ys : List Int) (o fr : List Int) : Prop where
  len : o.length = l.length
  inr : ∀ i : Nat, (i : Int) ∈ ys → i < l.length ∧ ∃ r : Nat, o[i]! = r ∧ r < fr.length ∧ (spAt l i).2 ≤ fr[r]!
  apart : ∀ i j : Nat, (i : Int) ∈ ys → (j : Int) ∈ ys → i ≠ j → o[i]! = o[j]! → ¬ meetP (spAt l i) (spAt l j)
  last : ∀ r : Nat, r < fr.length → ∃ p : Nat, (p : Int) ∈ ys ∧ o[p]! = r ∧ (spAt l p).2 = fr[r]!
  deep : (fr.length : Int) ≤ deepV l
  fn : roomsR l ys = (o, fr)
theorem gset (o : List Int) (i j : Nat) (v : Int) (hj : j < o.length) : (o.set i v)[j]! = if i = j then v else o[j]! := by
  rw [oget' _ (by simpa using hj), List.getElem_set]
  split
  · rfl
  · rw [oget' o hj]
theorem deep_of_cnt (l : List Sp) (t : Nat) (h : t < 1001) : cnt l t ≤ deepV l := by
  have key : ∀ T, t < T → cnt l t ≤ deepUp l T := by
    intro T
    induction T with
    | zero => intro h; omega
    | succ T ih =>
      intro h
      simp only [deepUp]
      by_cases e : t = T
      · subst e; omega
      · have := ih (by omega); omega
  exact key 1001 h
/-- as many as have a time, whatever one chooses of them -/
theorem cnt_ge (l : List Sp) (t : Int) : ∀ s : List Int, s.Nodup → (∀ x ∈ s, ∃ i : Nat, x = i ∧ i < l.length ∧ (spAt l i).1 ≤ t ∧ t < (spAt l i).2) → (s.length : Int) ≤ cnt l t := by
  have key : ∀ k, k ≤ l.length → ∀ s : List Int, s.Nodup → (∀ x ∈ s, ∃ i : Nat, x = i ∧ i < k ∧ (spAt l i).1 ≤ t ∧ t < (spAt l i).2) → (s.length : Int) ≤ cnt (l.take k) t := by
    intro k
    induction k with
    | zero =>
      intro _ s _ h
      cases s with
      | nil => simp [cnt]
      | cons x s => obtain ⟨i, _, hi, _⟩ := h x (by simp); omega
    | succ k ih =>
      intro hk s hs h
      have hx : l[k]? = some l[k] := List.getElem?_eq_getElem (by omega)
      have hsp : spAt l (k : Int) = l[k] := spAt_nat (x := l[k].1) (y := l[k].2) hx
      have h1 := ih (by omega) (s.erase (k : Int)) (hs.erase _) (fun x hx => by
        have hx' := (List.Nodup.mem_erase_iff hs).1 hx
        obtain ⟨i, rfl, hi, ht⟩ := h x hx'.2
        exact ⟨i, rfl, by have := hx'.1; omega, ht⟩)
      rw [take_at hx, cnt_snoc]
      rw [List.length_erase] at h1
      split at h1
      · next hm =>
        obtain ⟨i, e, _, ht⟩ := h _ (by simpa using hm)
        have e2 : i = k := by omega
        subst e2
        rw [hsp] at ht
        rw [if_pos ht]; omega
      · split <;> omega
  intro s hs h
  have := key l.length (Nat.le_refl _) s hs h
  rwa [List.take_length] at this
theorem RoomsTo.old {l : List Sp} {ys o fr : List Int} (h : RoomsTo l ys o fr) {i r : Nat} (hi : i < l.length) (hny : (i : Int) ∉ ys) (hr : r < fr.length) (hfit : fr[r]! ≤ (spAt l i).1) (hfirst : ∀ t : Nat, t < r → (spAt l i).1 < fr[t]!) (hw : (spAt l i).1 < (spAt l i).2) :
    RoomsTo l (ys ++ [(i : Int)]) (o.set i r) (fr.set r (spAt l i).2) := by
  have hol := h.len
  have ho : ∀ j : Nat, j < l.length → (o.set i r)[j]! = if i = j then (r : Int) else o[j]! := fun j hj => gset o i j r (by omega)
  have hf : ∀ j : Nat, j < fr.length → (fr.set r (spAt l i).2)[j]! = if r = j then (spAt l i).2 else fr[j]! := fun j hj => gset fr r j _ hj
  have hne : ∀ j : Nat, (j : Int) ∈ ys → i ≠ j := fun j hj e => hny (by rw [e]; exact hj)
  have hmem : ∀ j : Nat, (j : Int) ∈ ys ++ [(i : Int)] → (j : Int) ∈ ys ∨ j = i := fun j hj => by
    rcases List.mem_append.1 hj with h | h
    · exact Or.inl h
    · have := List.mem_singleton.1 h; exact Or.inr (by omega)
  have key : ∀ j : Nat, (j : Int) ∈ ys → (o.set i r)[j]! = r → ¬ meetP (spAt l j) (spAt l i) := fun j hj e hm => by
    obtain ⟨hjl, q, hq, hqf, hqt⟩ := h.inr j hj
    rw [ho j hjl, if_neg (hne j hj), hq] at e
    have : q = r := by omega
    subst this
    unfold meetP at hm; omega
  refine ⟨by simp [hol], fun j hj => ?_, fun a b ha hb hab he => ?_, fun q hq => ?_, by simpa using h.deep, by rw [roomsR_snoc, h.fn]; unfold stepR; simp only [fit_old _ fr r hr hfit hfirst, hr, if_true, Int.toNat_natCast]⟩
  · rcases hmem j hj with hj | rfl
    · obtain ⟨hjl, q, hq, hqf, hqt⟩ := h.inr j hj
      refine ⟨hjl, q, by rw [ho j hjl, if_neg (hne j hj)]; exact hq, by simpa using hqf, ?_⟩
      rw [hf q hqf]
      split
      · next e => subst e; omega
      · exact hqt
    · refine ⟨hi, r, by rw [ho j hi, if_pos rfl], by simpa using hr, ?_⟩
      rw [hf r hr, if_pos rfl]; omega
  · rcases hmem a ha with ha1 | rfl
    · have hal := (h.inr a ha1).1
      rcases hmem b hb with hb1 | rfl
      · have hbl := (h.inr b hb1).1
        rw [ho a hal, ho b hbl, if_neg (hne a ha1), if_neg (hne b hb1)] at he
        exact h.apart a b ha1 hb1 hab he
      · rw [ho b hi, if_pos rfl] at he
        exact key a ha1 he
    · rcases hmem b hb with hb1 | rfl
      · rw [ho a hi, if_pos rfl] at he
        intro hm
        exact key b hb1 he.symm ⟨hm.2, hm.1⟩
      · exact absurd rfl hab
  · have hq' : q < fr.length := by simpa using hq
    rw [hf q hq']
    by_cases e : r = q
    · subst e
      exact ⟨i, by simp, by rw [ho i hi, if_pos rfl], by rw [if_pos rfl]⟩
    · obtain ⟨p, hp, h1, h2⟩ := h.last q hq'
      exact ⟨p, by simp [hp], by rw [ho p (h.inr p hp).1, if_neg (hne p hp)]; exact h1, by rw [if_neg e]; exact h2⟩
theorem RoomsTo.new {l : List Sp} {ys o fr : List Int} (h : RoomsTo l ys o fr) {i : Nat} (hi : i < l.length) (hny : (i : Int) ∉ ys) (hfull : ∀ r : Nat, r < fr.length → (spAt l i).1 < fr[r]!)
    (hord : ∀ j : Nat, (j : Int) ∈ ys → (spAt l j).1 ≤ (spAt l i).1) (hw : 0 ≤ (spAt l i).1 ∧ (spAt l i).1 < (spAt l i).2 ∧ (spAt l i).2 ≤ 1000) :
    RoomsTo l (ys ++ [(i : Int)]) (o.set i fr.length) (fr ++ [(spAt l i).2]) := by
  have hol := h.len
  have ho : ∀ j : Nat, j < l.length → (o.set i fr.length)[j]! = if i = j then (fr.length : Int) else o[j]! := fun j hj => gset o i j _ (by omega)
  have hf : ∀ j : Nat, j < fr.length → (fr ++ [(spAt l i).2])[j]! = fr[j]! := fun j hj => by
    rw [oget' _ (by simp; omega), oget' _ hj, List.getElem_append_left hj]
  have hf2 : (fr ++ [(spAt l i).2])[fr.length]! = (spAt l i).2 := by
    rw [oget' _ (by simp), List.getElem_append_right (Nat.le_refl _)]; simp
  have hne : ∀ j : Nat, (j : Int) ∈ ys → i ≠ j := fun j hj e => hny (by rw [e]; exact hj)
  have hmem : ∀ j : Nat, (j : Int) ∈ ys ++ [(i : Int)] → (j : Int) ∈ ys ∨ j = i := fun j hj => by
    rcases List.mem_append.1 hj with h | h
    · exact Or.inl h
    · have := List.mem_singleton.1 h; exact Or.inr (by omega)
  have key : ∀ j : Nat, (j : Int) ∈ ys → (o.set i fr.length)[j]! ≠ fr.length := fun j hj e => by
    obtain ⟨hjl, q, hq, hqf, hqt⟩ := h.inr j hj
    rw [ho j hjl, if_neg (hne j hj), hq] at e
    omega
  refine ⟨by simp [hol], fun j hj => ?_, fun a b ha hb hab he => ?_, fun q hq => ?_, ?_, by rw [roomsR_snoc, h.fn]; unfold stepR; simp only [fit_new _ fr hfull, Nat.lt_irrefl, if_false, Int.toNat_natCast]⟩
  · rcases hmem j hj with hj | rfl
    · obtain ⟨hjl, q, hq, hqf, hqt⟩ := h.inr j hj
      exact ⟨hjl, q, by rw [ho j hjl, if_neg (hne j hj)]; exact hq, by simp; omega, by rw [hf q hqf]; exact hqt⟩
    · exact ⟨hi, fr.length, by rw [ho j hi, if_pos rfl], by simp, by rw [hf2]; omega⟩
  · rcases hmem a ha with ha1 | rfl
    · have hal := (h.inr a ha1).1
      rcases hmem b hb with hb1 | rfl
      · have hbl := (h.inr b hb1).1
        rw [ho a hal, ho b hbl, if_neg (hne a ha1), if_neg (hne b hb1)] at he
        exact h.apart a b ha1 hb1 hab he
      · rw [ho b hi, if_pos rfl] at he
        exact absurd he (key a ha1)
    · rcases hmem b hb with hb1 | rfl
      · rw [ho a hi, if_pos rfl] at he
        exact absurd he.symm (key b hb1)
      · exact absurd rfl hab
  · rw [List.length_append] at hq
    by_cases e : q = fr.length
    · subst e
      exact ⟨i, by simp, by rw [ho i hi, if_pos rfl], hf2.symm⟩
    · have hq' : q < fr.length := by simp at hq; omega
      obtain ⟨p, hp, h1, h2⟩ := h.last q hq'
      exact ⟨p, by simp [hp], by rw [ho p (h.inr p hp).1, if_neg (hne p hp)]; exact h1, by rw [hf q hq']; exact h2⟩
  · have hex : ∀ r : Nat, ∃ p : Nat, r < fr.length → ((p : Int) ∈ ys ∧ o[p]! = r ∧ (spAt l p).2 = fr[r]!) := fun r => by
      by_cases hr : r < fr.length
      · obtain ⟨p, hp⟩ := h.last r hr; exact ⟨p, fun _ => hp⟩
      · exact ⟨0, fun hh => absurd hh hr⟩
    obtain ⟨P, hP⟩ := Classical.axiomOfChoice hex
    have ht : ((spAt l i).1.toNat : Int) = (spAt l i).1 := by omega
    have h1 := cnt_ge l (spAt l i).1 ((i : Int) :: (List.range fr.length).map fun r => (P r : Int)) (by
      refine List.nodup_cons.2 ⟨fun hm => ?_, ?_⟩
      · obtain ⟨r, hr, he⟩ := List.mem_map.1 hm
        have hh := hP r (List.mem_range.1 hr)
        exact hny (by rw [← he]; exact hh.1)
      · rw [List.nodup_iff_pairwise_ne, List.pairwise_map]
        refine List.Pairwise.imp_of_mem (fun {a b} ha hb hab e => ?_) (List.nodup_iff_pairwise_ne.1 List.nodup_range)
        have h1 := hP a (List.mem_range.1 ha)
        have h2 := hP b (List.mem_range.1 hb)
        have e2 : P a = P b := by omega
        rw [e2] at h1
        have := h1.2.1.symm.trans h2.2.1
        exact hab (by omega)) (fun x hx => by
      rcases List.mem_cons.1 hx with rfl | hx
      · exact ⟨i, rfl, hi, by omega, hw.2.1⟩
      · obtain ⟨r, hr, rfl⟩ := List.mem_map.1 hx
        have hr' := List.mem_range.1 hr
        have hh := hP r hr'
        refine ⟨P r, rfl, (h.inr _ hh.1).1, hord _ hh.1, ?_⟩
        rw [hh.2.2]; exact hfull r hr')
    have h2 := deep_of_cnt l (spAt l i).1.toNat (by omega)
    rw [ht] at h2
    simp only [List.length_cons, List.length_map, List.length_range] at h1
    rw [List.length_append]; simp only [List.length_cons, List.length_nil]
    omega
end Go.Proofs.YtpaoiaogcckibaaDoor
