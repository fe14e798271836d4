/- Plain: who takes first those that are shorter on the first machine, number by number from below, and then the others, from above, has Johnson's order. Conditions: the times are at most 1000. -/
import Derived.Test.YtpaoiaogcckibaaDoorFlowO
import Derived.Test.YtpaoiaogcckibaaDoorSelP
namespace Go.Proofs.YtpaoiaogcckibaaDoor
open Go.RowKit
/-- what is taken of the first row: all below v, and of v the places below k -/
structure JA (l : List (Int × Int)) (v : Int) (k : Nat) (ys : List Int) : Prop where
  mem : ∀ i : Int, i ∈ ys ↔ (0 ≤ i ∧ i < l.length) ∧ isHd l i = true ∧ ((pairAt l i).1 < v ∨ ((pairAt l i).1 = v ∧ i < k))
  nodup : ys.Nodup
  ord : ys.Pairwise (Ahead (flow1 l) id)
structure JB (l : List (Int × Int)) (v : Int) (k : Nat) (zs : List Int) : Prop where
  mem : ∀ i : Int, i ∈ zs ↔ (0 ≤ i ∧ i < l.length) ∧ isHd l i = false ∧ (v < (pairAt l i).2 ∨ ((pairAt l i).2 = v ∧ i < k))
  nodup : zs.Nodup
  ord : zs.Pairwise (Ahead (flow2 l) id)
theorem cmpI_zero {a b : Int} : cmpI a b = 0 ↔ a = b := by unfold cmpI; split <;> (try split) <;> omega
theorem cmpI_neg {a b : Int} : cmpI a b < 0 ↔ a < b := by unfold cmpI; split <;> (try split) <;> omega
section
variable {l : List (Int × Int)} {v : Int} {k : Nat} {ys : List Int}
theorem JA.start (h : ∀ p ∈ l, (0 ≤ p.1 ∧ p.1 ≤ 1000) ∧ (0 ≤ p.2 ∧ p.2 ≤ 1000)) : JA l 0 0 [] := by
  refine ⟨fun i => ?_, by simp, by simp⟩
  simp only [List.not_mem_nil, false_iff]
  rintro ⟨⟨h0, h1⟩, _, h2⟩
  have : pairAt l i ∈ l := by unfold pairAt; rw [List.getD_eq_getElem?_getD, List.getElem?_eq_getElem (by omega), Option.getD_some]; exact List.getElem_mem _
  have := h _ this
  omega
theorem JA.skip (h : JA l v k ys) (hk : ¬ (isHd l k = true ∧ (pairAt l k).1 = v)) : JA l v (k + 1) ys := by
  refine ⟨fun i => ?_, h.nodup, h.ord⟩
  rw [h.mem]
  constructor
  · rintro ⟨h1, h2, h3⟩; exact ⟨h1, h2, by omega⟩
  · rintro ⟨h1, h2, h3⟩
    refine ⟨h1, h2, ?_⟩
    rcases h3 with h3 | ⟨h3, h4⟩
    · exact Or.inl h3
    · by_cases e : i = k
      · subst e; exact absurd ⟨h2, h3⟩ hk
      · exact Or.inr ⟨h3, by omega⟩
theorem JA.take (h : JA l v k ys) (hl : k < l.length) (h1 : isHd l k = true) (h2 : (pairAt l k).1 = v) : JA l v (k + 1) (ys ++ [(k : Int)]) := by
  have hn : (k : Int) ∉ ys := fun hm => by have := ((h.mem _).1 hm).2.2; omega
  refine ⟨fun i => ?_, ?_, ?_⟩
  · rw [List.mem_append, h.mem, List.mem_singleton]
    constructor
    · rintro (⟨a, b, c⟩ | rfl)
      · exact ⟨a, b, by omega⟩
      · exact ⟨by omega, h1, Or.inr ⟨h2, by omega⟩⟩
    · rintro ⟨a, b, c⟩
      by_cases e : i = k
      · exact Or.inr e
      · exact Or.inl ⟨a, b, by omega⟩
  · rw [List.nodup_append]
    exact ⟨h.nodup, by simp, fun a ha b hb => by simp at hb; subst hb; exact fun e => hn (e ▸ ha)⟩
  · rw [List.pairwise_append]
    refine ⟨h.ord, by simp, fun a ha b hb => ?_⟩
    simp at hb; subst hb
    have h3 := (h.mem a).1 ha
    unfold Ahead flow1
    rw [cmpI_neg, cmpI_zero]
    simp only [id]; omega
theorem JA.row (h : JA l v k ys) (hk : l.length ≤ k) : JA l (v + 1) 0 ys := by
  refine ⟨fun i => ?_, h.nodup, h.ord⟩
  rw [h.mem]
  constructor
  · rintro ⟨a, b, c⟩; exact ⟨a, b, by omega⟩
  · rintro ⟨a, b, c⟩; exact ⟨a, b, by omega⟩
theorem JA.done (h : JA l 1001 0 ys) (hl : ∀ p ∈ l, (0 ≤ p.1 ∧ p.1 ≤ 1000) ∧ (0 ≤ p.2 ∧ p.2 ≤ 1000)) : ys.Perm (hds l l.length) := by
  refine (List.perm_ext_iff_of_nodup h.nodup ((upto_nodup _).filter _)).2 fun i => ?_
  rw [h.mem, List.mem_filter, mem_upto]
  constructor
  · rintro ⟨a, b, c⟩; exact ⟨a, b⟩
  · rintro ⟨a, b⟩
    have : pairAt l i ∈ l := by unfold pairAt; rw [List.getD_eq_getElem?_getD, List.getElem?_eq_getElem (by omega), Option.getD_some]; exact List.getElem_mem _
    have := hl _ this
    exact ⟨a, b, by omega⟩
theorem JA.le (h : JA l v k ys) : ys.length ≤ l.length := by
  have := len_le_of_sub ys (upto l.length) h.nodup fun x hx => (mem_upto _ x).2 ((h.mem x).1 hx).1
  rwa [upto_len] at this
theorem JB.start (h : ∀ p ∈ l, (0 ≤ p.1 ∧ p.1 ≤ 1000) ∧ (0 ≤ p.2 ∧ p.2 ≤ 1000)) : JB l 1000 0 [] := by
  refine ⟨fun i => ?_, by simp, by simp⟩
  simp only [List.not_mem_nil, false_iff]
  rintro ⟨⟨h0, h1⟩, _, h2⟩
  have : pairAt l i ∈ l := by unfold pairAt; rw [List.getD_eq_getElem?_getD, List.getElem?_eq_getElem (by omega), Option.getD_some]; exact List.getElem_mem _
  have := h _ this
  omega
theorem JB.skip (h : JB l v k ys) (hk : ¬ (isHd l k = false ∧ (pairAt l k).2 = v)) : JB l v (k + 1) ys := by
  refine ⟨fun i => ?_, h.nodup, h.ord⟩
  rw [h.mem]
  constructor
  · rintro ⟨h1, h2, h3⟩; exact ⟨h1, h2, by omega⟩
  · rintro ⟨h1, h2, h3⟩
    refine ⟨h1, h2, ?_⟩
    rcases h3 with h3 | ⟨h3, h4⟩
    · exact Or.inl h3
    · by_cases e : i = k
      · subst e; exact absurd ⟨h2, h3⟩ hk
      · exact Or.inr ⟨h3, by omega⟩
theorem JB.take (h : JB l v k ys) (hl : k < l.length) (h1 : isHd l k = false) (h2 : (pairAt l k).2 = v) : JB l v (k + 1) (ys ++ [(k : Int)]) := by
  have hn : (k : Int) ∉ ys := fun hm => by have := ((h.mem _).1 hm).2.2; omega
  refine ⟨fun i => ?_, ?_, ?_⟩
  · rw [List.mem_append, h.mem, List.mem_singleton]
    constructor
    · rintro (⟨a, b, c⟩ | rfl)
      · exact ⟨a, b, by omega⟩
      · exact ⟨by omega, h1, Or.inr ⟨h2, by omega⟩⟩
    · rintro ⟨a, b, c⟩
      by_cases e : i = k
      · exact Or.inr e
      · exact Or.inl ⟨a, b, by omega⟩
  · rw [List.nodup_append]
    exact ⟨h.nodup, by simp, fun a ha b hb => by simp at hb; subst hb; exact fun e => hn (e ▸ ha)⟩
  · rw [List.pairwise_append]
    refine ⟨h.ord, by simp, fun a ha b hb => ?_⟩
    simp at hb; subst hb
    have h3 := (h.mem a).1 ha
    unfold Ahead flow2
    rw [cmpI_neg, cmpI_zero]
    simp only [id]; omega
theorem JB.row (h : JB l v k ys) (hk : l.length ≤ k) : JB l (v - 1) 0 ys := by
  refine ⟨fun i => ?_, h.nodup, h.ord⟩
  rw [h.mem]
  constructor
  · rintro ⟨a, b, c⟩; exact ⟨a, b, by omega⟩
  · rintro ⟨a, b, c⟩; exact ⟨a, b, by omega⟩
theorem JB.done (h : JB l (-1) 0 ys) (hl : ∀ p ∈ l, (0 ≤ p.1 ∧ p.1 ≤ 1000) ∧ (0 ≤ p.2 ∧ p.2 ≤ 1000)) : ys.Perm (tls l l.length) := by
  refine (List.perm_ext_iff_of_nodup h.nodup ((upto_nodup _).filter _)).2 fun i => ?_
  rw [h.mem, List.mem_filter, mem_upto]
  constructor
  · rintro ⟨a, b, c⟩; exact ⟨a, by simp [b]⟩
  · rintro ⟨a, b⟩
    have : pairAt l i ∈ l := by unfold pairAt; rw [List.getD_eq_getElem?_getD, List.getElem?_eq_getElem (by omega), Option.getD_some]; exact List.getElem_mem _
    have := hl _ this
    exact ⟨a, by simpa using b, by omega⟩
theorem JB.le (h : JB l v k ys) : ys.length ≤ l.length := by
  have := len_le_of_sub ys (upto l.length) h.nodup fun x hx => (mem_upto _ x).2 ((h.mem x).1 hx).1
  rwa [upto_len] at this
theorem weak_flow1 (l : List (Int × Int)) : Weak (flow1 l) := weak_key fun i => (pairAt l i).1
theorem weak_flow2 (l : List (Int × Int)) : Weak (flow2 l) := weak_rev (weak_key fun i => (pairAt l i).2)
/-- both parts -/
def JohnIs (l : List (Int × Int)) (o : List Int) : Prop := ∃ ys zs, o = ys ++ zs ∧ JA l 1001 0 ys ∧ JB l (-1) 0 zs
theorem john_same {o o' : List Int} (h : JOrd l o) (h' : JohnIs l o') (hl : ∀ p ∈ l, (0 ≤ p.1 ∧ p.1 ≤ 1000) ∧ (0 ≤ p.2 ∧ p.2 ≤ 1000)) : o' = o := by
  obtain ⟨a, b, rfl, h1, h2, h3, h4⟩ := h
  obtain ⟨ys, zs, rfl, ha, hb⟩ := h'
  rw [sel_unique (weak_flow1 l).anti ((ha.done hl).trans h1.symm) ha.ord h3, sel_unique (weak_flow2 l).anti ((hb.done hl).trans h2.symm) hb.ord h4]
end
end Go.Proofs.YtpaoiaogcckibaaDoor
