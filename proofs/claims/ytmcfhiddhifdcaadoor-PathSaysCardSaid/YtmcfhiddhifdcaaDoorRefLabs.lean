/- A row of labels in memory, and what is put there anew. Conditions: none. -/
import Derived.Test.YtmcfhiddhifdcaaDoorRefBetter
import Derived.Laws.MakeOwn
namespace Go.Proofs.YtmcfhiddhifdcaaDoor
open Go.RowKit
/-- rows of twos, whatever they are -/
def prs (f : Nat → Value × Value) (N : Nat) : List Value := (List.range N).flatMap fun v => [(f v).1, (f v).2]
theorem prs_succ (f : Nat → Value × Value) (N : Nat) : prs f (N + 1) = prs f N ++ [(f N).1, (f N).2] := by simp [prs, List.range_succ]
theorem prs_len (f : Nat → Value × Value) (N : Nat) : (prs f N).length = N * 2 := by
  induction N with
  | zero => rfl
  | succ N ih => rw [prs_succ, List.length_append, ih]; simp; omega
theorem prs_get (f : Nat → Value × Value) : ∀ (N v : Nat), v < N → (prs f N)[v * 2]? = some (f v).1 ∧ (prs f N)[v * 2 + 1]? = some (f v).2 := by
  intro N
  induction N with
  | zero => intro v h; omega
  | succ N ih =>
    intro v h
    rw [prs_succ]
    by_cases e : v < N
    · rw [List.getElem?_append_left (by rw [prs_len]; omega), List.getElem?_append_left (by rw [prs_len]; omega)]
      exact ih v e
    · obtain rfl : v = N := by omega
      rw [List.getElem?_append_right (by rw [prs_len]; omega), List.getElem?_append_right (by rw [prs_len]; omega), prs_len]
      constructor
      · simp
      · rw [show v * 2 + 1 - v * 2 = 1 by omega]; rfl
theorem prs_ext {f : Nat → Value × Value} {N : Nat} {l : List Value} (hl : l.length = N * 2) (h : ∀ v, v < N → l[v * 2]? = some (f v).1 ∧ l[v * 2 + 1]? = some (f v).2) : l = prs f N := by
  apply List.ext_getElem?
  intro i
  rcases Nat.lt_or_ge i (N * 2) with h1 | h1
  · have h2 := h (i / 2) (by omega)
    have h3 := prs_get f N (i / 2) (by omega)
    rcases (show i % 2 = 0 ∨ i % 2 = 1 by omega) with e | e
    · rw [show i = i / 2 * 2 by omega, h2.1, h3.1]
    · rw [show i = i / 2 * 2 + 1 by omega, h2.2, h3.2]
  · rw [List.getElem?_eq_none (by omega), List.getElem?_eq_none (by rw [prs_len]; omega)]
theorem prs_set {f : Nat → Value × Value} {N k : Nat} (hk : k < N) (u v : Value) : ((prs f N).set (k * 2) u).set (k * 2 + 1) v = prs (fun x => if x = k then (u, v) else f x) N := by
  refine prs_ext (by simp [prs_len]) fun x hx => ?_
  have hg := prs_get f N x hx
  by_cases e : x = k
  · subst e
    rw [if_pos rfl]
    constructor
    · rw [List.getElem?_set_ne (by omega), List.getElem?_set_self (by rw [prs_len]; omega)]
    · rw [List.getElem?_set_self (by rw [List.length_set, prs_len]; omega)]
  · rw [if_neg e]
    constructor
    · rw [List.getElem?_set_ne (by omega), List.getElem?_set_ne (by omega), hg.1]
    · rw [List.getElem?_set_ne (by omega), List.getElem?_set_ne (by omega), hg.2]
theorem prs_made (z1 z2 : Value) (N : Nat) : (madeCells #[z1, z2] (N * 2)).toList = prs (fun _ => (z1, z2)) N := by
  refine prs_ext (by simp [madeCells]) fun v hv => ?_
  simp only [madeCells, Array.toList_map, Array.toList_range, List.getElem?_map]
  rw [List.getElem?_range (by omega), List.getElem?_range (by omega)]
  constructor
  · simp
  · rw [Option.map_some, show (v * 2 + 1) % (#[z1, z2] : Array Value).size = 1 by show (v * 2 + 1) % 2 = 1; omega]
    rfl
def labF (ps : Nat → Option Addr) (cs : Nat → Nat) (L : Nat → Lab) (v : Nat) : Value × Value := (.int .i64 (L v).1, .slice (ps v) (L v).2.length (cs v))
structure Labs (w : World) (g N : Nat) (ps : Nat → Option Addr) (cs : Nat → Nat) (L : Nat → Lab) : Prop where
  row : Row w g 47 (prs (labF ps cs L) N)
  nodes : ∀ v, v < N → 0 < (L v).2.length → ∃ b, ps v = some ⟨b, 0, none⟩ ∧ b ≠ g ∧ b < w.heap.size ∧ ∀ (j : Nat) (u : Value), (ints (L v).2)[j]? = some u → w.cell? ⟨b, j, none⟩ = some u
section
variable {w w' : World} {g N : Nat} {ps : Nat → Option Addr} {cs : Nat → Nat} {L : Nat → Lab}
theorem Labs.at0 (h : Labs w g N ps cs L) {v : Nat} (hv : v < N) : w.cell? ⟨g, v * 2, none⟩ = some (.int .i64 (L v).1) := by rw [h.row.cell]; exact (prs_get _ N v hv).1
theorem Labs.at1 (h : Labs w g N ps cs L) {v : Nat} (hv : v < N) : w.cell? ⟨g, v * 2 + 1, none⟩ = some (.slice (ps v) (L v).2.length (cs v)) := by rw [h.row.cell]; exact (prs_get _ N v hv).2
theorem Labs.cells (h : Labs w g N ps cs L) {v : Nat} (hv : v < N) : Cells w w.heap.size (ps v) (ints (L v).2) := fun hn => by
  rw [ints_len] at hn
  obtain ⟨b, h1, _, h3, h4⟩ := h.nodes v hv hn
  exact ⟨b, 0, h1, h3, fun j u hu => by rw [Nat.zero_add]; exact h4 j u hu⟩
theorem Labs.step (h : Labs w g N ps cs L) (hb : Below w.heap.size w w') : Labs w' g N ps cs L :=
  ⟨h.row.step hb, fun v hv hn => by
    obtain ⟨b, h1, h2, h3, h4⟩ := h.nodes v hv hn
    exact ⟨b, h1, h2, Nat.lt_of_lt_of_le h3 hb.size, fun j u hu => (hb.cell (p := ⟨b, j, none⟩) h3).trans (h4 j u hu)⟩⟩
theorem Labs.put (h : Labs w g N ps cs L) {k b n c : Nat} {x : Int} {ns : List Int} (hk : k < N) (hn : ns.length = n) (hg : b ≠ g) (hb : b < w.heap.size) (hc : ∀ (j : Nat) (u : Value), (ints ns)[j]? = some u → w.cell? ⟨b, j, none⟩ = some u) :
    Labs ((w.setCell ⟨g, k * 2, none⟩ (.int .i64 x)).setCell ⟨g, k * 2 + 1, none⟩ (.slice (some ⟨b, 0, none⟩) n c)) g N (fun v => if v = k then some ⟨b, 0, none⟩ else ps v) (fun v => if v = k then c else cs v) (setL L k (x, ns)) := by
  have far : ∀ b', b' ≠ g → ∀ j : Nat, ((w.setCell ⟨g, k * 2, none⟩ (.int .i64 x)).setCell ⟨g, k * 2 + 1, none⟩ (.slice (some ⟨b, 0, none⟩) n c)).cell? ⟨b', j, none⟩ = w.cell? ⟨b', j, none⟩ := fun b' hb' j => by
    rw [World.cell?_setCell_other _ _ _ _ (by simp only [ne_eq, Addr.mk.injEq]; omega), World.cell?_setCell_other _ _ _ _ (by simp only [ne_eq, Addr.mk.injEq]; omega)]
  refine ⟨?_, fun v hv hl => ?_⟩
  · have h1 := (h.row.set_ (k * 2) (.int .i64 x)).set_ (k * 2 + 1) (.slice (some ⟨b, 0, none⟩) n c)
    rw [prs_set hk] at h1
    have e : (fun v => if v = k then (Value.int .i64 x, Value.slice (some ⟨b, 0, none⟩) n c) else labF ps cs L v) = labF (fun v => if v = k then some ⟨b, 0, none⟩ else ps v) (fun v => if v = k then c else cs v) (setL L k (x, ns)) := by
      funext v
      unfold labF setL
      by_cases e : v = k
      · simp only [if_pos e, hn]
      · simp only [if_neg e]
    rw [e] at h1; exact h1
  · by_cases e : v = k
    · subst e
      rw [if_pos rfl]
      refine ⟨b, rfl, hg, by simpa using hb, fun j u hu => ?_⟩
      rw [setL_same] at hu
      rw [far b hg]; exact hc j u hu
    · rw [if_neg e]
      rw [setL_ne e] at hl ⊢
      obtain ⟨b', h1, h2, h3, h4⟩ := h.nodes v hv hl
      exact ⟨b', h1, h2, by simpa using h3, fun j u hu => by rw [far b' h2]; exact h4 j u hu⟩
end
theorem Labs.start {w : World} {g N : Nat} (h : Row w g 47 (prs (fun _ => (.int .i64 0, .slice none 0 0)) N)) : Labs w g N (fun _ => none) (fun _ => 0) (fun _ => (0, [])) := by
  refine ⟨?_, fun v _ hl => by simp at hl⟩
  have e : labF (fun _ => none) (fun _ => 0) (fun _ => (0, [])) = fun _ => (.int .i64 0, .slice none 0 0) := by funext v; rfl
  rw [e]; exact h
theorem grow_lower (w : World) (n : Nat) (os : Array Obj) : Below w.heap.size w (Go.Sort.grow (w.drewN n) os) := ⟨rfl, rfl, rfl, by rw [Go.Sort.size_grow]; exact Nat.le_add_right _ _, fun _ hk => Go.Sort.heap_grow_old (w.drewN n) os hk⟩
theorem info_lab : (Tryd.prog.info? 47).map (fun i => (i.zero, i.size, i.bytes)) = some (some (.agg #[.int .i64 0, .slice none 0 0]), 2, 32) := by kernel_rfl
theorem make_lab (n : Nat) (hn : n ≤ 100) (w : World) :
    (Instr.makeSlice 44 (.int .i64 (n : Int)) (.int .i64 (n : Int))).run Tryd.prog w = .ok (.slice (some ⟨w.heap.size, 0, none⟩) n n) (w.alloc (.cells (madeCells #[.int .i64 0, .slice none 0 0] (n * 2)) 47)) := by
  obtain ⟨i, hi, hzz⟩ := Option.map_eq_some_iff.1 info_lab
  simp only [Prod.mk.injEq] at hzz
  obtain ⟨hz, h2, h3⟩ := hzz
  have hb : (i.bytes : Int) * (n : Int) ≤ 281474976710656 := by rw [h3]; omega
  have hr := run_make (P := Tryd.prog) w 44 47 i _ Tryd.underlying44 hi hz .i64 .i64 (n : Int) (n : Int) (by omega) (by omega) hb (by omega)
  simp only [Int.toNat_natCast, h2] at hr
  exact hr
end Go.Proofs.YtmcfhiddhifdcaaDoor
