/- Arguments opened: a slice of numbers, of pairs, of triples, as cells behind a place. Conditions: none. -/
import Derived.Test.YtejbilcofbjpiaaCore
import Derived.ProofKit
import Derived.OpenShut
import Derived.Deep.Slices
import Derived.Deep.Strs
import Derived.SizedLaws
import Derived.ChangeSame
import Derived.ChangeOld
namespace Go.Proofs.Ytejbilcofbjpiaa
open Go.ChangeShapes Go.WideShapes Go.ChangeAt Go.RowKit Go.Deep

theorem wf_int {x : Int} (h : (Lit.int .i64 x).wf = true) : -9223372036854775808 ≤ x ∧ x ≤ 9223372036854775807 := by
  simpa [Lit.wf, IntKind.min, IntKind.max, IntKind.signed, IntKind.bits] using h

/-- one row behind the other: where the cells of a row lie -/
theorem flat_get (k : Nat) : ∀ (rows : List (List Value)), (∀ r ∈ rows, r.length = k) → ∀ (j : Nat) (u : Value), rows.flatten[j]? = some u → ∃ i r, rows[i]? = some r ∧ i * k ≤ j ∧ j < i * k + k ∧ r[j - i * k]? = some u := by
  intro rows
  induction rows with
  | nil => intro _ j u h; simp at h
  | cons r rows ih =>
    intro hr j u h
    have hk := hr r (by simp)
    rw [List.flatten_cons] at h
    by_cases hj : j < r.length
    · rw [List.getElem?_append_left hj] at h
      exact ⟨0, r, rfl, by omega, by omega, by simpa using h⟩
    · rw [List.getElem?_append_right (by omega)] at h
      obtain ⟨i, r', h1, h2, h3, h4⟩ := ih (fun q hq => hr q (by simp [hq])) _ _ h
      refine ⟨i + 1, r', by simpa using h1, ?_, ?_, ?_⟩
      · rw [Nat.succ_mul]; omega
      · rw [Nat.succ_mul]; omega
      · rw [Nat.succ_mul, show j - (i * k + k) = j - r.length - i * k by omega]; exact h4

section
variable {H : Type} {enc : TypeId × Value → H} {W : World}
/-- a slice that came in: its elements' cells, row by row -/
theorem open_rows {t e : TypeId} {k fuel : Nat} {a : Option Addr} {len cap : Nat} {d : DataW H} {p : List MemPlace} (ht : Try.prog.underlying t = some (.slice e)) (hk : Try.prog.cellsOf e = k)
    (h : DataW.trod enc Try.prog W 0 (fun _ => true) true fuel t [.slice a len cap] = some (d, p)) :
    ∃ rows : List (List Value), rows.length = len ∧ Cells W W.heap.size a rows.flatten ∧ (∀ r ∈ rows, r.length = k ∧ ∃ n x, DataW.trod enc Try.prog W 0 (fun _ => true) true n e r = some x) ∧
      (len = 0 ∨ ∃ el sp, d = .slice el sp ∧ len ≤ el.length + sp.length) := by
  rcases open_slice ht h with ⟨hcs, hx⟩ | ⟨a', len', cap', m, n, D, Pl, hcs, hb, hl, hm, hmm, hx, hi⟩
  · simp only [List.cons.injEq, Value.slice.injEq, and_true] at hcs
    obtain ⟨rfl, rfl, rfl⟩ := hcs
    exact ⟨[], rfl, Cells.nil, by simp, .inl rfl⟩
  · simp only [List.cons.injEq, Value.slice.injEq, and_true] at hcs
    obtain ⟨rfl, rfl, rfl⟩ := hcs
    have hml : len ≤ m := by rw [hmm]; split <;> omega
    have hex : ∀ i : Nat, ∃ cs', i < len → (W.cells? 0 (a'.add (i * k)) k = some cs' ∧ DataW.trod enc Try.prog W 0 (fun _ => true) true n e cs' = some (D i, Pl i)) := fun i => by
      by_cases hil : i < len
      · obtain ⟨cs', h1, h2⟩ := hi i (by omega)
        rw [hk] at h1
        exact ⟨cs', fun _ => ⟨h1, h2⟩⟩
      · exact ⟨[], fun h => absurd h hil⟩
    obtain ⟨F, hF⟩ := Classical.axiomOfChoice hex
    have hlen : ∀ r ∈ (List.range len).map F, r.length = k := fun r hr => by
      obtain ⟨i, hi', rfl⟩ := List.mem_map.1 hr
      have := hF i (List.mem_range.1 hi')
      exact (World.cells?_some this.1).2.1
    refine ⟨(List.range len).map F, by simp, ?_, fun r hr => ⟨hlen r hr, ?_⟩, ?_⟩
    · intro hpos
      have hcell : ∀ j u, ((List.range len).map F).flatten[j]? = some u → W.cell? (a'.add j) = some u := fun j u hu => by
        obtain ⟨i, r, h1, h2, h3, h4⟩ := flat_get k _ hlen j u hu
        simp only [List.getElem?_map, Option.map_eq_some_iff] at h1
        obtain ⟨i', h1, rfl⟩ := h1
        obtain ⟨hil, e0⟩ := List.getElem?_eq_some_iff.1 h1
        simp at hil e0
        subst e0
        have h5 := (World.cells?_some (hF i hil).1).2.2 (j - i * k) (by omega)
        rw [Go.Deep.add_add, h4, show i * k + (j - i * k) = j by omega] at h5
        exact h5
      obtain ⟨u, hu⟩ : ∃ u, ((List.range len).map F).flatten[0]? = some u := ⟨_, List.getElem?_eq_getElem hpos⟩
      have h0 := hcell 0 u hu
      have hspot : a'.spot = none := by simpa [Addr.add] using World.cell?_spot h0
      obtain ⟨b, off, spot⟩ := a'
      simp only at hspot
      subst hspot
      refine ⟨b, off, rfl, ?_, fun j u hu => ?_⟩
      · exact block_lt_of_cell (a := ⟨b, off, none⟩) (by simpa [Addr.add] using h0)
      · have := hcell j u hu
        unfold Addr.add at this
        split at this
        · next hj => subst hj; simpa using this
        · simpa using this
    · obtain ⟨i, hi', rfl⟩ := List.mem_map.1 hr
      exact ⟨n, _, (hF i (List.mem_range.1 hi')).2⟩
    · right
      simp only [Prod.mk.injEq] at hx
      exact ⟨_, _, hx.1, by simp⟩

/-- rows that are each known by a thing: the things -/
theorem rows_of {α : Type} (f : α → List Value) (Q : α → Prop) : ∀ (rows : List (List Value)), (∀ r ∈ rows, ∃ x, r = f x ∧ Q x) → ∃ l : List α, l.length = rows.length ∧ rows.flatten = l.flatMap f ∧ ∀ x ∈ l, Q x := by
  intro rows
  induction rows with
  | nil => intro _; exact ⟨[], rfl, rfl, by simp⟩
  | cons r rows ih =>
    intro h
    obtain ⟨x, rfl, hq⟩ := h r (by simp)
    obtain ⟨l, h1, h2, h3⟩ := ih fun q hq => h q (by simp [hq])
    refine ⟨x :: l, by simp [h1], by simp [h2], fun y hy => ?_⟩
    rcases List.mem_cons.1 hy with rfl | hy
    · exact hq
    · exact h3 y hy

theorem ints_flat (l : List Int) : l.flatMap (fun x => [Value.int .i64 x]) = ints l := by
  induction l with
  | nil => rfl
  | cons x l ih => simp only [List.flatMap_cons, ih]; rfl

theorem open_intsA {t : TypeId} {fuel : Nat} {a : Option Addr} {len cap : Nat} {d : DataW H} {p : List MemPlace} (ht : Try.prog.underlying t = some (.slice 3))
    (h : DataW.trod enc Try.prog W 0 (fun _ => true) true fuel t [.slice a len cap] = some (d, p)) :
    ∃ l : List Int, l.length = len ∧ Cells W W.heap.size a (ints l) ∧ (∀ x ∈ l, -9223372036854775808 ≤ x ∧ x ≤ 9223372036854775807) ∧ (len = 0 ∨ ∃ el sp, d = .slice el sp ∧ len ≤ el.length + sp.length) := by
  obtain ⟨rows, h1, h2, h3, h4⟩ := open_rows (k := 1) ht (by kernel_rfl) h
  obtain ⟨l, e1, e2, e3⟩ := rows_of (fun x : Int => [Value.int .i64 x]) (fun x => -9223372036854775808 ≤ x ∧ x ≤ 9223372036854775807) rows (fun r hr => by
    obtain ⟨hl, n, x, hx⟩ := h3 r hr
    obtain ⟨y, rfl, _, hw⟩ := DataW.trod_int Try.underlying3 hx
    exact ⟨y, rfl, wf_int hw⟩)
  refine ⟨l, by omega, ?_, e3, h4⟩
  rw [← ints_flat, ← e2]; exact h2

set_option maxRecDepth 100000 in
/-- a slice of structs of two numbers -/
theorem open_pairsA {t s : TypeId} {f0 f1 : Field} {fuel : Nat} {a : Option Addr} {len cap : Nat} {d : DataW H} {p : List MemPlace} (ht : Try.prog.underlying t = some (.slice s))
    (hs : Try.prog.underlying s = some (.struct #[f0, f1])) (hf : f0.type = 3 ∧ f1.type = 3 ∧ f0.offset = 0 ∧ f1.offset = 1) (hk : Try.prog.cellsOf s = 2) (hki : Try.prog.cellsOf 3 = 1)
    (h : DataW.trod enc Try.prog W 0 (fun _ => true) true fuel t [.slice a len cap] = some (d, p)) :
    ∃ l : List (Int × Int), l.length = len ∧ Cells W W.heap.size a (pairs l) ∧ (∀ x ∈ l, (-9223372036854775808 ≤ x.1 ∧ x.1 ≤ 9223372036854775807) ∧ (-9223372036854775808 ≤ x.2 ∧ x.2 ≤ 9223372036854775807)) ∧
      (len = 0 ∨ ∃ el sp, d = .slice el sp ∧ len ≤ el.length + sp.length) := by
  obtain ⟨rows, h1, h2, h3, h4⟩ := open_rows ht hk h
  obtain ⟨l, e1, e2, e3⟩ := rows_of (fun x : Int × Int => [Value.int .i64 x.1, Value.int .i64 x.2]) (fun x => (-9223372036854775808 ≤ x.1 ∧ x.1 ≤ 9223372036854775807) ∧ (-9223372036854775808 ≤ x.2 ∧ x.2 ≤ 9223372036854775807)) rows (fun r hr => by
    obtain ⟨hl, n, x, hx⟩ := h3 r hr
    obtain ⟨y0, y1, m, _, _, g0, g1⟩ := trod_struct2 hs hx
    obtain ⟨e0, e1, o0, o1⟩ := hf
    match r, hl with
    | [c0, c1], _ =>
      rw [e0, o0, hki] at g0
      rw [e1, o1, hki] at g1
      obtain ⟨z0, q0, _, w0⟩ := DataW.trod_int Try.underlying3 g0
      obtain ⟨z1, q1, _, w1⟩ := DataW.trod_int Try.underlying3 g1
      simp at q0 q1
      subst q0 q1
      exact ⟨(z0, z1), rfl, wf_int w0, wf_int w1⟩)
  refine ⟨l, by omega, ?_, e3, h4⟩
  unfold pairs
  rw [← e2]; exact h2

set_option maxRecDepth 100000 in
/-- a slice of structs of three numbers -/
theorem open_threes {α : Type} (mk : Int → Int → Int → α) (f : α → Int × Int × Int) (hmk : ∀ a b c, f (mk a b c) = (a, b, c)) (Q : α → Prop)
    (hQ : ∀ a b c : Int, (-9223372036854775808 ≤ a ∧ a ≤ 9223372036854775807) → (-9223372036854775808 ≤ b ∧ b ≤ 9223372036854775807) → (-9223372036854775808 ≤ c ∧ c ≤ 9223372036854775807) → Q (mk a b c))
    {t s : TypeId} {f0 f1 f2 : Field} {fuel : Nat} {a : Option Addr} {len cap : Nat} {d : DataW H} {p : List MemPlace} (ht : Try.prog.underlying t = some (.slice s))
    (hs : Try.prog.underlying s = some (.struct #[f0, f1, f2])) (hf : f0.type = 3 ∧ f1.type = 3 ∧ f2.type = 3 ∧ f0.offset = 0 ∧ f1.offset = 1 ∧ f2.offset = 2) (hk : Try.prog.cellsOf s = 3) (hki : Try.prog.cellsOf 3 = 1)
    (h : DataW.trod enc Try.prog W 0 (fun _ => true) true fuel t [.slice a len cap] = some (d, p)) :
    ∃ l : List α, l.length = len ∧ Cells W W.heap.size a (threes f l) ∧ (∀ x ∈ l, Q x) ∧ (len = 0 ∨ ∃ el sp, d = .slice el sp ∧ len ≤ el.length + sp.length) := by
  obtain ⟨rows, h1, h2, h3, h4⟩ := open_rows ht hk h
  obtain ⟨l, e1, e2, e3⟩ := rows_of (fun x : α => [Value.int .i64 (f x).1, Value.int .i64 (f x).2.1, Value.int .i64 (f x).2.2]) Q rows (fun r hr => by
    obtain ⟨hl, n, x, hx⟩ := h3 r hr
    obtain ⟨y0, y1, y2, m, _, _, g0, g1, g2⟩ := trod_struct3 hs hx
    obtain ⟨e0, e1, e2, o0, o1, o2⟩ := hf
    match r, hl with
    | [c0, c1, c2], _ =>
      rw [e0, o0, hki] at g0
      rw [e1, o1, hki] at g1
      rw [e2, o2, hki] at g2
      obtain ⟨z0, q0, _, w0⟩ := DataW.trod_int Try.underlying3 g0
      obtain ⟨z1, q1, _, w1⟩ := DataW.trod_int Try.underlying3 g1
      obtain ⟨z2, q2, _, w2⟩ := DataW.trod_int Try.underlying3 g2
      simp at q0 q1 q2
      subst q0 q1 q2
      exact ⟨mk z0 z1 z2, by rw [hmk], hQ _ _ _ (wf_int w0) (wf_int w1) (wf_int w2)⟩)
  refine ⟨l, by omega, ?_, e3, h4⟩
  unfold threes
  rw [← e2]; exact h2
end
end Go.Proofs.Ytejbilcofbjpiaa
