/- The memory of a list of lists of numbers that a call makes: each row in a block of its own. Conditions: none. -/
import Derived.Test.YtejbilcofbjpiaaUnion
namespace Go.Proofs.Ytejbilcofbjpiaa
open Go.RowKit

/-- a row: where it lies, its room, its numbers -/
structure RV where
  at_ : Option Addr
  cap : Nat
  xs : List Int
def RV.val (r : RV) : Value := .slice r.at_ r.xs.length r.cap
/-- rows of numbers, each in a block of its own, behind one slice -/
structure RowsIn (w : World) (base : Nat) (O : Option Addr) (co : Nat) (rs : List RV) : Prop where
  out : w.ownsRow base 26 1 (.slice O rs.length co) rs.length (rs.map RV.val)
  rows : ∀ r ∈ rs, w.ownsRow base 3 1 r.val r.xs.length (ints r.xs)
  apart : rs.Pairwise fun r s => ∀ g, r.val.ownBlock = some g → s.val.ownBlock ≠ some g
section
variable {w w' : World} {base co : Nat} {O : Option Addr} {rs : List RV}
theorem RowsIn.start (w : World) (base : Nat) : RowsIn w base none 0 [] := ⟨World.ownsRow_nil _ _ _ _, by simp, List.Pairwise.nil⟩
/-- blocks that turn none of it -/
theorem RowsIn.keep (h : RowsIn w base O co rs) (hk : ∀ g, base ≤ g → g < w.heap.size → w'.heap[g]? = w.heap[g]?) : RowsIn w' base O co rs := by
  have key : ∀ {e n : Nat} {v : Value} {xs : List Value}, w.ownsRow base e 1 v n xs → w'.ownsRow base e 1 v n xs := fun {e n v xs} ho => by
    obtain ⟨h1, h2⟩ := ho
    refine ⟨h1, ?_⟩
    rcases h2 with h2 | ⟨g, cap, cur, rfl, hb, hh, r⟩
    · exact Or.inl h2
    · exact Or.inr ⟨g, cap, cur, rfl, hb, (hk g hb (lt_of_block hh)).trans hh, r⟩
  exact ⟨key h.out, fun r hr => key (h.rows r hr), h.apart⟩
theorem RowsIn.keeps {bs : List Nat} (h : RowsIn w base O co rs) (hk : Keeps bs w w') (hb : ∀ x ∈ bs, x < base) : RowsIn w' base O co rs :=
  h.keep fun g hg hl => hk.block g hl fun hm => by have := hb g hm; omega
theorem RowsIn.alloc (h : RowsIn w base O co rs) (o : Obj) : RowsIn (w.alloc o) base O co rs := h.keep fun g _ hl => Below.heap_alloc w o g hl
theorem RowsIn.len (_h : RowsIn w base O co rs) : (rs.map fun r => r.xs).length = rs.length := by simp
/-- a row more, empty -/
theorem RowsIn.push (h : RowsIn w base O co rs) {g c : Nat} (ho : w'.ownsRow base 26 1 (.slice (some ⟨g, 0, none⟩) (rs.length + 1) c) (rs.length + 1) (rs.map RV.val ++ [.slice none 0 0]))
    (hg : w.grownBy w' (Value.slice O rs.length co).ownBlock) : RowsIn w' base (some ⟨g, 0, none⟩) c (rs ++ [⟨none, 0, []⟩]) := by
  refine ⟨by simpa [RV.val] using ho, fun r hr => ?_, ?_⟩
  · rcases List.mem_append.1 hr with hr | hr
    · have hrow := h.rows r hr
      obtain ⟨h1, h2⟩ := hrow
      refine ⟨h1, ?_⟩
      rcases h2 with h2 | ⟨g', cap, cur, hv, hb, hh, r'⟩
      · exact Or.inl h2
      · refine Or.inr ⟨g', cap, cur, hv, hb, (hg.block g' (lt_of_block hh) ?_).trans hh, r'⟩
        intro e
        rcases h.out.2 with ⟨e2, e3⟩ | ⟨g2, c2, cur2, e2, _, hh2, _⟩
        · rw [e2] at e; simp [Value.ownBlock] at e
        · rw [e2] at e
          simp only [Value.ownBlock, Option.some.injEq] at e
          subst e
          rw [hh] at hh2
          injection hh2 with hh2
          injection hh2 with _ ht
          exact absurd ht (by decide)
    · simp at hr; subst hr; exact World.ownsRow_nil _ _ _ _
  · refine List.pairwise_append.2 ⟨h.apart, by simp, fun r _ s hs => ?_⟩
    simp at hs; subst hs
    intro g' _; simp [RV.val, Value.ownBlock]
/-- one number more behind row j: the row's new place -/
theorem RowsIn.grow (h : RowsIn w base O co rs) {j : Nat} {r : RV} (hj : rs[j]? = some r) {g1 c1 : Nat} {x : Int}
    (ho : w'.ownsRow base 3 1 (.slice (some ⟨g1, 0, none⟩) (r.xs.length + 1) c1) (r.xs.length + 1) (ints r.xs ++ [.int .i64 x])) (hg : w.grownBy w' r.val.ownBlock)
    (hat : some g1 = r.val.ownBlock ∨ w.heap.size ≤ g1) {go : Nat} (hO : O = some ⟨go, 0, none⟩) :
    RowsIn (w'.setCell ⟨go, j, none⟩ (.slice (some ⟨g1, 0, none⟩) (r.xs.length + 1) c1)) base O co (rs.set j ⟨some ⟨g1, 0, none⟩, c1, r.xs ++ [x]⟩) ∧ w'.frozen? ⟨go, j, none⟩ = false ∧ w'.cell? ⟨go, j, none⟩ = some r.val := by
  subst hO
  have hjl := (List.getElem?_eq_some_iff.1 hj).1
  have hrm : r ∈ rs := List.mem_of_getElem? hj
  have hne : ∀ g, r.val.ownBlock = some g → g ≠ go := fun g hg' e => by
    subst e
    obtain ⟨_, h2⟩ := h.rows r hrm
    rcases h2 with ⟨e2, _⟩ | ⟨g2, c2, cur2, e2, _, hh2, _⟩
    · rw [e2] at hg'; simp [Value.ownBlock] at hg'
    · rw [e2] at hg'
      simp only [Value.ownBlock, Option.some.injEq] at hg'
      subst hg'
      rcases h.out.2 with ⟨e3, e4⟩ | ⟨g3, c3, cur3, e3, _, hh3, _⟩
      · omega
      · simp only [Value.slice.injEq, Option.some.injEq, Addr.mk.injEq, and_true, true_and] at e3
        obtain ⟨rfl, _⟩ := e3
        rw [hh3] at hh2
        injection hh2 with hh2
        injection hh2 with _ ht
        exact absurd ht (by decide)
  have hgo := (h.out.lt go rfl).2
  have hout : w'.ownsRow base 26 1 (.slice (some ⟨go, 0, none⟩) rs.length co) rs.length (rs.map RV.val) := by
    obtain ⟨h1, h2⟩ := h.out
    refine ⟨h1, ?_⟩
    rcases h2 with h2 | ⟨g', cap, cur, hv, hb, hh, r'⟩
    · exact Or.inl h2
    · refine Or.inr ⟨g', cap, cur, hv, hb, (hg.block g' (lt_of_block hh) ?_).trans hh, r'⟩
      intro e
      simp only [Value.slice.injEq, Option.some.injEq, Addr.mk.injEq, and_true, true_and] at hv
      obtain ⟨rfl, _⟩ := hv
      exact hne _ e.symm rfl
  have hg1 : g1 ≠ go := fun e => by
    rcases hat with hat | hat
    · exact hne g1 hat.symm e
    · omega
  refine ⟨⟨?_, fun s hs => ?_, ?_⟩, hout.frozenAt j, ?_⟩
  · have := (hout.stored j (.slice (some ⟨g1, 0, none⟩) (r.xs.length + 1) c1)).1
    have e : (rs.set j ⟨some ⟨g1, 0, none⟩, c1, r.xs ++ [x]⟩).map RV.val = (rs.map RV.val).set j (.slice (some ⟨g1, 0, none⟩) (r.xs.length + 1) c1) := by
      rw [List.map_set]; congr 1; simp [RV.val]
    rw [e, List.length_set]; exact this
  · obtain ⟨i, hi, rfl⟩ := List.getElem_of_mem hs
    rw [List.length_set] at hi
    rw [List.getElem_set]
    split
    · refine ownsRow_setCell_other (a := ⟨go, j, none⟩) ?_ ?_ _
      · simpa [RV.val, ints_append, show ints [x] = [Value.int .i64 x] from rfl] using ho
      · simp only [RV.val, Value.ownBlock, ne_eq, Option.some.injEq]; exact hg1
    · next hij =>
      have hsm := h.rows _ (List.getElem_mem hi)
      have hap : ∀ g, (rs[i]).val.ownBlock = some g → r.val.ownBlock ≠ some g := fun g e => by
        have hpw := List.pairwise_iff_getElem.1 h.apart
        have hr' : rs[j] = r := (List.getElem?_eq_some_iff.1 hj).2
        rcases Nat.lt_or_ge i j with hlt | hge
        · have := hpw i j hi hjl hlt g e; rwa [hr'] at this
        · intro e2
          have := hpw j i hjl hi (by omega) g (by rw [hr']; exact e2)
          exact this e
      have hso : ∀ g, (rs[i]).val.ownBlock = some g → g ≠ go := fun g hg' e => by
        subst e
        obtain ⟨_, h2⟩ := hsm
        rcases h2 with ⟨e2, _⟩ | ⟨g2, c2, cur2, e2, _, hh2, _⟩
        · rw [e2] at hg'; simp [Value.ownBlock] at hg'
        · rw [e2] at hg'
          simp only [Value.ownBlock, Option.some.injEq] at hg'
          subst hg'
          rcases h.out.2 with ⟨e3, e4⟩ | ⟨g3, c3, cur3, e3, _, hh3, _⟩
          · omega
          · simp only [Value.slice.injEq, Option.some.injEq, Addr.mk.injEq, and_true, true_and] at e3
            obtain ⟨rfl, _⟩ := e3
            rw [hh3] at hh2
            injection hh2 with hh2
            injection hh2 with _ ht
            exact absurd ht (by decide)
      refine ownsRow_setCell_other (a := ⟨go, j, none⟩) ?_ (fun e => hso go e rfl) _
      obtain ⟨h1, h2⟩ := hsm
      refine ⟨h1, ?_⟩
      rcases h2 with h2 | ⟨g', cap, cur, hv, hb, hh, r'⟩
      · exact Or.inl h2
      · refine Or.inr ⟨g', cap, cur, hv, hb, (hg.block g' (lt_of_block hh) ?_).trans hh, r'⟩
        intro e
        exact hap g' (by rw [hv]; rfl) e.symm
  · have hpw := List.pairwise_iff_getElem.1 h.apart
    have hr' : rs[j] = r := (List.getElem?_eq_some_iff.1 hj).2
    have hnew : ∀ i (hi : i < rs.length), i ≠ j → (rs[i]).val.ownBlock ≠ some g1 := fun i hi hij e => by
      rcases hat with hat | hat
      · rcases Nat.lt_or_ge i j with hlt | hge
        · exact hpw i j hi hjl hlt g1 e (by rw [hr']; exact hat.symm)
        · exact hpw j i hjl hi (by omega) g1 (by rw [hr']; exact hat.symm) e
      · have := (h.rows _ (List.getElem_mem hi)).lt g1 e; omega
    refine List.pairwise_iff_getElem.2 fun a b ha hb hab g => ?_
    rw [List.length_set] at ha hb
    rw [List.getElem_set, List.getElem_set]
    split
    · next e =>
      rw [if_neg (by omega)]
      intro e1
      simp only [RV.val, Value.ownBlock, Option.some.injEq] at e1
      subst e1
      exact hnew b hb (by omega)
    · next e =>
      split
      · next e2 =>
        intro e1 e3
        simp only [RV.val, Value.ownBlock, Option.some.injEq] at e3
        subst e3
        exact hnew a ha (by omega) e1
      · exact hpw a b ha hb hab g
  · rw [hout.cellAt j (by omega)]
    simp [hj]
end
end Go.Proofs.Ytejbilcofbjpiaa
