/- A square of numbers in memory: rows in blocks of their own, behind one slice. Conditions: none. -/
import Derived.Test.YtblblgmmgalmeaaDoorRowsMem
import Derived.Test.YtblblgmmgalmeaaDoorInts
namespace Go.Proofs.YtblblgmmgalmeaaDoor
open Go.RowKit
def intsF (N : Nat) (f : Nat → Int) : List Value := (List.range N).map fun b => .int .i64 (f b)
theorem intsF_at {N : Nat} {f : Nat → Int} {b : Nat} (hb : b < N) : (intsF N f)[b]? = some (.int .i64 (f b)) := by simp [intsF, hb]
theorem intsF_len (N : Nat) (f : Nat → Int) : (intsF N f).length = N := by simp [intsF]
theorem intsF_set {N : Nat} {f : Nat → Int} {b : Nat} {v : Int} : (intsF N f).set b (.int .i64 v) = intsF N fun y => if y = b then v else f y := by
  apply List.ext_getElem
  · simp [intsF]
  · intro i h1 h2
    simp only [intsF, List.getElem_set, List.getElem_map, List.getElem_range]
    by_cases e : b = i
    · subst e; simp
    · rw [if_neg e, if_neg (fun h => e h.symm)]
theorem intsF_ints (N : Nat) (f : Nat → Int) : intsF N f = ints ((List.range N).map f) := by simp [intsF, ints]
def rowsV (N : Nat) (gs cs : Nat → Nat) : List Value := (List.range N).map fun a => .slice (some ⟨gs a, 0, none⟩) N (cs a)
theorem rowsV_at {N a : Nat} {gs cs : Nat → Nat} (ha : a < N) : (rowsV N gs cs)[a]? = some (.slice (some ⟨gs a, 0, none⟩) N (cs a)) := by simp [rowsV, ha]
theorem own_still {B : Nat} {e : TypeId} {k : Nat} {v : Value} {n : Nat} {xs : List Value} {w w' : World} (h : w.ownsRow B e k v n xs) (hb : Below w.heap.size w w') : w'.ownsRow B e k v n xs :=
  h.kept (row := none) ⟨hb.os, hb.tape, hb.output, hb.size, fun j hj _ => hb.block j hj⟩ (by cases hv : v.ownBlock <;> simp)
theorem own_lower {w : World} {b b' e size n : Nat} {v : Value} {xs : List Value} (h : w.ownsRow b e size v n xs) (hb : b' ≤ b) : w.ownsRow b' e size v n xs := by
  obtain ⟨h1, h2⟩ := h
  refine ⟨h1, ?_⟩
  rcases h2 with h2 | ⟨g, cap, cur, rfl, hg, r⟩
  · exact Or.inl h2
  · exact Or.inr ⟨g, cap, cur, rfl, by omega, r⟩
structure Mat (w : World) (base go co : Nat) (gs cs : Nat → Nat) (N : Nat) (M : Nat → Nat → Int) : Prop where
  out : w.ownsRow base 29 1 (.slice (some ⟨go, 0, none⟩) N co) N (rowsV N gs cs)
  rows : ∀ a, a < N → w.ownsRow base 3 1 (.slice (some ⟨gs a, 0, none⟩) N (cs a)) N (intsF N (M a))
  apart : ∀ a b, a < N → b < N → a ≠ b → gs a ≠ gs b
  ne : ∀ a, a < N → gs a ≠ go
section
variable {w w' : World} {base go co N : Nat} {gs cs : Nat → Nat} {M : Nat → Nat → Int}
theorem Mat.row (h : Mat w base go co gs cs N M) {a : Nat} (ha : a < N) : w.cell? ⟨go, a, none⟩ = some (.slice (some ⟨gs a, 0, none⟩) N (cs a)) := by
  rw [h.out.cellAt a (by omega)]; exact rowsV_at ha
theorem Mat.cell (h : Mat w base go co gs cs N M) {a b : Nat} (ha : a < N) (hb : b < N) : w.cell? ⟨gs a, b, none⟩ = some (.int .i64 (M a b)) := by
  rw [(h.rows a ha).cellAt b (by omega)]; exact intsF_at hb
theorem Mat.free (h : Mat w base go co gs cs N M) {a : Nat} (ha : a < N) (b : Nat) : w.frozen? ⟨gs a, b, none⟩ = false := (h.rows a ha).frozenAt b
theorem Mat.base_le (h : Mat w base go co gs cs N M) {a : Nat} (ha : a < N) : base ≤ gs a ∧ gs a < w.heap.size := (h.rows a ha).lt (gs a) rfl
theorem Mat.step (h : Mat w base go co gs cs N M) (hb : Below w.heap.size w w') : Mat w' base go co gs cs N M := ⟨own_still h.out hb, fun a ha => own_still (h.rows a ha) hb, h.apart, h.ne⟩
theorem Mat.put (h : Mat w base go co gs cs N M) {a : Nat} (ha : a < N) (b : Nat) (v : Int) : Mat (w.setCell ⟨gs a, b, none⟩ (.int .i64 v)) base go co gs cs N (fun x y => if x = a ∧ y = b then v else M x y) := by
  refine ⟨ownsRow_setCell_other (a := ⟨gs a, b, none⟩) h.out ?_ _, fun x hx => ?_, h.apart, h.ne⟩
  · simp only [Value.ownBlock, ne_eq, Option.some.injEq]
    exact fun e => h.ne a ha e.symm
  · by_cases hxa : x = a
    · subst hxa
      have h1 := ((h.rows x hx).stored b (.int .i64 v)).1
      rw [intsF_set] at h1
      have e : (fun y => if y = b then v else M x y) = (fun y => if x = x ∧ y = b then v else M x y) := by funext y; simp
      rw [e] at h1
      exact h1
    · have e : (fun y => if x = a ∧ y = b then v else M x y) = M x := by funext y; rw [if_neg (fun h => hxa h.1)]
      rw [e]
      refine ownsRow_setCell_other (a := ⟨gs a, b, none⟩) (h.rows x hx) ?_ _
      simp only [Value.ownBlock, ne_eq, Option.some.injEq]
      exact h.apart x a hx ha hxa
theorem Mat.same (h : Mat w base go co gs cs N M) {M' : Nat → Nat → Int} (hM : ∀ a b, a < N → b < N → M a b = M' a b) : Mat w base go co gs cs N M' := by
  refine ⟨h.out, fun a ha => ?_, h.apart, h.ne⟩
  have e : intsF N (M' a) = intsF N (M a) := by
    unfold intsF
    refine List.map_congr_left fun b hb => ?_
    rw [hM a b ha (List.mem_range.1 hb)]
  rw [e]; exact h.rows a ha
end
section
variable {w w' : World} {base co : Nat} {O : Option Addr} {rs : List RV}
theorem RowsIn.below (h : RowsIn w base O co rs) (hb : Below w.heap.size w w') : RowsIn w' base O co rs := h.keep fun g _ hl => hb.block g hl
/-- a row more, that a loop has made -/
theorem RowsIn.pushRow (h : RowsIn w base O co rs) {r : RV} (hr : w.ownsRow base 3 1 r.val r.xs.length (ints r.xs)) (hap : ∀ s ∈ rs, ∀ g, s.val.ownBlock = some g → r.val.ownBlock ≠ some g) {g c : Nat}
    (ho : w'.ownsRow base 29 1 (.slice (some ⟨g, 0, none⟩) (rs.length + 1) c) (rs.length + 1) (rs.map RV.val ++ [r.val]))
    (hg : w.grownBy w' (Value.slice O rs.length co).ownBlock) : RowsIn w' base (some ⟨g, 0, none⟩) c (rs ++ [r]) := by
  have key : ∀ s : RV, w.ownsRow base 3 1 s.val s.xs.length (ints s.xs) → w'.ownsRow base 3 1 s.val s.xs.length (ints s.xs) := fun s hrow => by
    obtain ⟨h1, h2⟩ := hrow
    refine ⟨h1, ?_⟩
    rcases h2 with h2 | ⟨g', cap, cur, hv, hb, hh, r'⟩
    · exact Or.inl h2
    · refine Or.inr ⟨g', cap, cur, hv, hb, (hg.block g' (lt_of_block hh) ?_).trans hh, r'⟩
      intro e
      rcases h.out.2 with ⟨e2, e3⟩ | ⟨g2, c2, cur2, e2, _, hh2, _⟩
      · rw [e2] at e; simp [Value.ownBlock] at e
      · rw [e2] at e
        simp only [Value.ownBlock, Option.some.injEq] at e
        subst e
        rw [hh] at hh2
        injection hh2 with hh2
        injection hh2 with _ ht
        exact absurd ht (by decide)
  refine ⟨by simpa using ho, fun s hs => ?_, ?_⟩
  · rcases List.mem_append.1 hs with hs | hs
    · exact key s (h.rows s hs)
    · simp at hs; subst hs; exact key _ hr
  · refine List.pairwise_append.2 ⟨h.apart, by simp, fun s hs t ht => ?_⟩
    simp at ht; subst ht
    exact hap s hs
theorem RowsIn.mat {N : Nat} {M : Nat → Nat → Int} (h : RowsIn w base O co rs) (hN : 0 < N) (hM : rs.map RV.xs = (List.range N).map fun a => (List.range N).map (M a)) :
    ∃ (go : Nat) (gs cs : Nat → Nat), O = some ⟨go, 0, none⟩ ∧ Mat w base go co gs cs N M := by
  have hl : rs.length = N := by have := congrArg List.length hM; simpa using this
  have hx : ∀ a (ha : a < rs.length), (rs[a]).xs = (List.range N).map (M a) := fun a ha => by
    have h1 : (rs.map RV.xs)[a]? = some (rs[a]).xs := by simp [ha]
    rw [hM] at h1
    rw [List.getElem?_map, List.getElem?_range (by omega)] at h1
    simpa using h1.symm
  have hform : ∀ a (ha : a < rs.length), ∃ g c, (rs[a]).at_ = some ⟨g, 0, none⟩ ∧ (rs[a]).cap = c := fun a ha => by
    have h1 := h.rows _ (List.getElem_mem ha)
    have h2 : (rs[a]).xs.length = N := by rw [hx a ha]; simp
    obtain ⟨g, c, h3, _⟩ := h1.form (by omega)
    simp only [RV.val, Value.slice.injEq] at h3
    exact ⟨g, _, h3.1, rfl⟩
  obtain ⟨go, cgo, hO, _, _⟩ := h.out.form (by omega)
  simp only [Value.slice.injEq, true_and] at hO
  obtain ⟨rfl, rfl⟩ := hO
  refine ⟨go, fun a => ((rs.getD a ⟨none, 0, []⟩).at_.map (·.block)).getD 0, fun a => (rs.getD a ⟨none, 0, []⟩).cap, rfl, ?_⟩
  have hval : ∀ a (ha : a < N), (rs[a]'(by omega)).val = .slice (some ⟨((rs.getD a ⟨none, 0, []⟩).at_.map (·.block)).getD 0, 0, none⟩) N (rs.getD a ⟨none, 0, []⟩).cap := fun a ha => by
    obtain ⟨g, c, h1, h2⟩ := hform a (by omega)
    have e : rs.getD a ⟨none, 0, []⟩ = rs[a]'(by omega) := by simp [List.getD, show a < rs.length by omega]
    rw [e]
    unfold RV.val
    rw [h1]
    simp only [Option.map_some, Option.getD_some]
    rw [hx a (by omega)]; simp
  have hown : ∀ a, a < N → w.ownsRow base 3 1 (.slice (some ⟨((rs.getD a ⟨none, 0, []⟩).at_.map (·.block)).getD 0, 0, none⟩) N (rs.getD a ⟨none, 0, []⟩).cap) N (intsF N (M a)) := fun a ha => by
    have h1 := h.rows _ (List.getElem_mem (show a < rs.length by omega))
    rw [hval a ha, hx a (by omega)] at h1
    rw [intsF_ints]
    simpa using h1
  refine ⟨?_, hown, fun a b ha hb hab e => ?_, fun a ha e => ?_⟩
  · have e : rowsV N (fun a => ((rs.getD a ⟨none, 0, []⟩).at_.map (·.block)).getD 0) (fun a => (rs.getD a ⟨none, 0, []⟩).cap) = rs.map RV.val := by
      apply List.ext_getElem
      · simp [rowsV, hl]
      · intro i h1 h2
        simp only [rowsV, List.getElem_map, List.getElem_range]
        rw [hval i (by simpa [rowsV] using h1)]
    rw [e]
    have := h.out
    rwa [hl] at this
  · have hpw := List.pairwise_iff_getElem.1 h.apart
    have va := hval a ha
    have vb := hval b hb
    rcases Nat.lt_or_ge a b with h1 | h1
    · refine hpw a b (by omega) (by omega) h1 _ (by rw [va]; rfl) ?_
      rw [vb]; simp only [Value.ownBlock]; rw [e]
    · refine hpw b a (by omega) (by omega) (by omega) _ (by rw [vb]; rfl) ?_
      rw [va]; simp only [Value.ownBlock]; rw [e]
  · have h1 := (hown a ha).2
    rcases h1 with ⟨e2, _⟩ | ⟨g2, c2, cur2, e2, _, hh2, _⟩
    · simp at e2
    · simp only [Value.slice.injEq, Option.some.injEq, Addr.mk.injEq, and_true, true_and] at e2
      rcases h.out.2 with ⟨e3, _⟩ | ⟨g3, c3, cur3, e3, _, hh3, _⟩
      · simp at e3
      · simp only [Value.slice.injEq, Option.some.injEq, Addr.mk.injEq, and_true, true_and] at e3
        rw [← e2.1, e, e3.1, hh3] at hh2
        injection hh2 with hh2
        injection hh2 with _ ht
        exact absurd ht (by decide)
end
end Go.Proofs.YtblblgmmgalmeaaDoor
