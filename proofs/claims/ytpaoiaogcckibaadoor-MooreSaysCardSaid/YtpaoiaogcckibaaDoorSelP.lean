/- Plain: who takes again and again the first of which no other one that is left is ahead sorts. Conditions: the comparison is one by a weak order. -/
import Derived.Test.YtpaoiaogcckibaaDoorPerm
import Derived.Test.YtpaoiaogcckibaaDoorSortPlain
namespace Go.Proofs.YtpaoiaogcckibaaDoor
theorem sel_unique {c : Int → Int → Int} (anti : ∀ x y, c x y < 0 ↔ 0 < c y x) {ys zs : List Int} (hp : ys.Perm zs) (h1 : ys.Pairwise (Ahead c id)) (h2 : zs.Pairwise (Ahead c id)) : ys = zs :=
  List.Perm.eq_of_pairwise (fun a b _ _ ha hb => by
    have e1 := anti a b
    have e2 := anti b a
    unfold Ahead at ha hb
    simp only [id] at ha hb
    omega) h1 h2 hp
/-- what is taken so far: in order, and ahead of all that is left -/
structure SelI (c : Int → Int → Int) (n : Nat) (ys : List Int) : Prop where
  nodup : ys.Nodup
  rng : ∀ y ∈ ys, 0 ≤ y ∧ y < n
  ord : ys.Pairwise (Ahead c id)
  rest : ∀ y ∈ ys, ∀ i : Nat, i < n → (i : Int) ∉ ys → Ahead c id y i
theorem SelI.start (c : Int → Int → Int) (n : Nat) : SelI c n [] := ⟨by simp, by simp, by simp, by simp⟩
/-- the best of the first i that are left: none, or the first of which none is ahead -/
def SelB (c : Int → Int → Int) (ys : List Int) (i : Nat) (v : Int) : Prop :=
  (v = -1 ∧ ∀ j : Nat, j < i → (j : Int) ∈ ys) ∨ ∃ q : Nat, v = q ∧ q < i ∧ (q : Int) ∉ ys ∧ ∀ j : Nat, j < i → (j : Int) ∉ ys → j = q ∨ Ahead c id q j
section
variable {c : Int → Int → Int} {ys : List Int} {n i : Nat} {v : Int}
theorem SelB.start : SelB c ys 0 (-1) := Or.inl ⟨rfl, fun j hj => by omega⟩
theorem SelB.skip (h : SelB c ys i v) (hi : (i : Int) ∈ ys) : SelB c ys (i + 1) v := by
  rcases h with ⟨rfl, h⟩ | ⟨q, rfl, hq, hn, h⟩
  · refine Or.inl ⟨rfl, fun j hj => ?_⟩
    by_cases e : j = i
    · subst e; exact hi
    · exact h j (by omega)
  · refine Or.inr ⟨q, rfl, by omega, hn, fun j hj hjn => ?_⟩
    by_cases e : j = i
    · subst e; exact absurd hi hjn
    · exact h j (by omega) hjn
theorem SelB.first (h : SelB c ys i v) (hv : v < 0) (hi : (i : Int) ∉ ys) : SelB c ys (i + 1) (i : Int) := by
  rcases h with ⟨rfl, h⟩ | ⟨q, rfl, hq, hn, h⟩
  · refine Or.inr ⟨i, rfl, by omega, hi, fun j hj hjn => ?_⟩
    by_cases e : j = i
    · exact Or.inl e
    · exact absurd (h j (by omega)) hjn
  · omega
theorem SelB.pos (h : SelB c ys i v) (hv : ¬ v < 0) : ∃ q : Nat, v = q ∧ q < i ∧ (q : Int) ∉ ys := by
  rcases h with ⟨rfl, h⟩ | ⟨q, rfl, hq, hn, h⟩
  · omega
  · exact ⟨q, rfl, hq, hn⟩
theorem SelB.take {q : Nat} (hw : Weak c) (h : SelB c ys i (q : Int)) (hi : (i : Int) ∉ ys) (hc : c i q < 0) : SelB c ys (i + 1) (i : Int) := by
  rcases h with ⟨h0, _⟩ | ⟨q', h0, hq, hn, h⟩
  · omega
  · obtain rfl : q = q' := by omega
    refine Or.inr ⟨i, rfl, by omega, hi, fun j hj hjn => ?_⟩
    by_cases e : j = i
    · exact Or.inl e
    · right
      rcases h j (by omega) hjn with rfl | h1
      · exact Or.inl hc
      · have h2 : Ahead c id (i : Int) (q : Int) := Or.inl hc
        exact h2.trans hw h1
theorem SelB.stay {q : Nat} (hw : Weak c) (h : SelB c ys i (q : Int)) (hc : ¬ c i q < 0) : SelB c ys (i + 1) (q : Int) := by
  rcases h with ⟨h0, _⟩ | ⟨q', h0, hq, hn, h⟩
  · omega
  · obtain rfl : q = q' := by omega
    refine Or.inr ⟨q, rfl, by omega, hn, fun j hj hjn => ?_⟩
    by_cases e : j = i
    · subst e
      exact Or.inr (Ahead.of_not hw hc (by show (q : Int) < j; omega))
    · exact h j (by omega) hjn
theorem SelI.some (h : SelI c n ys) (hl : ys.length < n) (hb : SelB c ys n v) : ∃ q : Nat, v = q ∧ q < n ∧ (q : Int) ∉ ys ∧ SelI c n (ys ++ [(q : Int)]) := by
  rcases hb with ⟨_, hb⟩ | ⟨q, rfl, hq, hn, hb⟩
  · have := len_le_of_sub (upto n) ys (upto_nodup n) fun x hx => by
      obtain ⟨h0, h1⟩ := (mem_upto n x).1 hx
      have := hb x.toNat (by omega)
      rwa [show ((x.toNat : Nat) : Int) = x by omega] at this
    rw [upto_len] at this; omega
  · refine ⟨q, rfl, hq, hn, ?_, ?_, ?_, ?_⟩
    · rw [List.nodup_append]
      exact ⟨h.nodup, by simp, fun a ha b hb => by simp at hb; subst hb; exact fun e => hn (e ▸ ha)⟩
    · intro y hy
      rcases List.mem_append.1 hy with hy | hy
      · exact h.rng y hy
      · simp at hy; subst hy; omega
    · rw [List.pairwise_append]
      exact ⟨h.ord, by simp, fun a ha b hb => by simp at hb; subst hb; exact h.rest a ha q hq hn⟩
    · intro y hy i hi hin
      have hin2 : (i : Int) ∉ ys ∧ (i : Int) ≠ q := by simpa [not_or] using hin
      rcases List.mem_append.1 hy with hy | hy
      · exact h.rest y hy i hi hin2.1
      · simp at hy; subst hy
        rcases hb i hi hin2.1 with rfl | h1
        · exact absurd rfl hin2.2
        · exact h1
theorem SelI.done {zs : List Int} (hw : Weak c) (h : SelI c n ys) (hl : ys.length = n) (hz : IsOrd n zs) (hs : zs.Pairwise (Ahead c id)) : ys = zs :=
  sel_unique hw.anti ((IsOrd.perm (n := n) (o := ys) ⟨hl, h.rng, h.nodup⟩).trans hz.perm.symm) h.ord hs
theorem SelI.le (h : SelI c n ys) : ys.length ≤ n := by
  have := len_le_of_sub ys (upto n) h.nodup fun x hx => (mem_upto n x).2 (h.rng x hx)
  rwa [upto_len] at this
end
end Go.Proofs.YtpaoiaogcckibaaDoor
