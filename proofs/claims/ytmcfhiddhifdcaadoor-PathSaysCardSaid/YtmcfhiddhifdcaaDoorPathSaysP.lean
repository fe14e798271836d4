/- Plain: what the document tells of ways and walks is what path.Far, path.Way and path.Long answer. Conditions: none. -/
import Derived.Test.YtmcfhiddhifdcaaDoorRefFar
import Derived.Test.YtmcfhiddhifdcaaDoorRefWalk
import Derived.Test.YtmcfhiddhifdcaaDoorLong
import Derived.Test.YtmcfhiddhifdcaaDoorWay
namespace Go.Proofs.YtmcfhiddhifdcaaDoor
open Go.RowKit
theorem light_step (a b : Int) : ∀ (l : List Edge) (m : Int), l.foldl (stepG false a b) m = lightFrom a b l m := by
  intro l
  induction l with
  | nil => intro m; rfl
  | cons e l ih =>
    intro m
    rw [List.foldl_cons, lightFrom, ih]
    congr 1
    unfold stepG hitG
    by_cases h : e.a = a ∧ e.b = b
    · by_cases h2 : m < 0 ∨ e.weight < m
      · rw [if_pos (decide_eq_true (Or.inl h)), if_pos h2, if_pos ⟨h, h2⟩]
      · rw [if_pos (decide_eq_true (Or.inl h)), if_neg h2, if_neg (fun h3 => h2 h3.2)]
    · rw [if_neg (by simp only [decide_eq_true_iff]; rintro (h1 | ⟨h1, _⟩); exact h h1; cases h1), if_neg (fun h3 => h h3.1)]
theorem stepV_light (l : List Edge) (a b : Int) : stepV false l a b = light l a b := light_step a b l (-1)
theorem steps_long (l : List Edge) : ∀ (xs : List Int) (s mo p : Int), ∃ mo', stepsF false l s mo p xs = (match longRes l (p :: xs) with | none => (5, 0, 0) | some n => (0, s + n, mo')) := by
  intro xs
  induction xs with
  | nil => intro s mo p; exact ⟨mo, by simp [stepsF, longRes]⟩
  | cons x xs ih =>
    intro s mo p
    by_cases h : light l p x < 0
    · exact ⟨0, by rw [stepsF, stepV_light, if_pos h, longRes_none h]⟩
    · obtain ⟨mo', h1⟩ := ih (s + light l p x) (if mo < light l p x then light l p x else mo) x
      refine ⟨mo', ?_⟩
      rw [stepsF, stepV_light, if_neg h, longRes_step h, h1]
      cases longRes l (x :: xs) with
      | none => rfl
      | some n => simp only [Option.map_some]; rw [Int.add_assoc]
theorem nodesD_err (N : Int) : ∀ xs : List Int, nodesD N xs = nodesErr N xs := by
  intro xs
  induction xs with
  | nil => rfl
  | cons x xs ih => simp only [nodesD, nodesErr, ih]
theorem walk_long (x : Int) (l : List Edge) (o : List Int) : ∃ mv, walkD false x l o = (longErr x l o, longVal x l o, mv) := by
  have hE : nodesF x (graphErr x l) o = pathErr x l o := by unfold nodesF pathErr; rw [nodesD_err]
  unfold walkD
  rw [hE]
  by_cases hp : pathErr x l o = 0
  · rw [hp]
    by_cases h0 : o.length = 0
    · have h1 : lenE 0 o.length = 3 := by unfold lenE; rw [if_pos rfl, if_pos h0]
      have h2 : longErr x l o = 3 := by unfold longErr; rw [if_pos hp, if_pos h0]
      refine ⟨0, ?_⟩
      rw [h1, walkF_bad (by omega), h2]
      unfold longVal
      rw [h2, if_neg (by omega)]
    · by_cases h6 : 60 < o.length
      · have h1 : lenE 0 o.length = 4 := by unfold lenE; rw [if_pos rfl, if_neg h0, if_pos h6]
        have h2 : longErr x l o = 4 := by unfold longErr; rw [if_pos hp, if_neg h0, if_pos h6]
        refine ⟨0, ?_⟩
        rw [h1, walkF_bad (by omega), h2]
        unfold longVal
        rw [h2, if_neg (by omega)]
      · have h1 : lenE 0 o.length = 0 := by unfold lenE; rw [if_pos rfl, if_neg h0, if_neg h6]
        rw [h1]
        cases o with
        | nil => simp at h0
        | cons p xs =>
          obtain ⟨mo', h3⟩ := steps_long l xs 0 0 p
          have h4 : walkF false l 0 0 0 (p :: xs) = stepsF false l 0 0 p xs := if_pos rfl
          rw [h4, h3]
          cases hr : longRes l (p :: xs) with
          | none =>
            have h2 : longErr x l (p :: xs) = 5 := by unfold longErr; rw [if_pos hp, if_neg h0, if_neg h6, if_pos hr]
            refine ⟨0, ?_⟩
            unfold longVal
            rw [h2, if_neg (by omega)]
          | some v =>
            have h2 : longErr x l (p :: xs) = 0 := by unfold longErr; rw [if_pos hp, if_neg h0, if_neg h6, if_neg (by rw [hr]; simp)]
            refine ⟨mo', ?_⟩
            unfold longVal
            rw [h2, if_pos rfl, hr]
            simp
  · have h1 : lenE (pathErr x l o) o.length = pathErr x l o := if_neg hp
    have h2 : longErr x l o = pathErr x l o := if_neg hp
    refine ⟨0, ?_⟩
    rw [h1, walkF_bad hp]
    unfold longVal
    rw [h2, if_neg hp]
theorem longWalk (x : Int) (A : Option Addr) (n c : Nat) (l : List Edge) (A' : Option Addr) (m c' : Nat) (o : List Int) (w : World) (hA : Cells w w.heap.size A (edges l)) (hn : l.length = n) (hm : n ≤ 9223372036854775806)
    (hA' : Cells w w.heap.size A' (ints o)) (hn' : o.length = m) (hm' : m ≤ 9223372036854775806) (hx : -9223372036854775808 ≤ x ∧ x ≤ 9223372036854775807) :
    Calls Tryd.prog 11 #[graphV x A n c, .slice A' m c', .bool false] w fun e w' => ∃ mv, e = .returned (.tuple #[.int .i64 (longErr x l o), .int .i64 (longVal x l o), .int .i64 mv]) ∧ Below w.heap.size w w' :=
  (refWalk x A n c l A' m c' o false w hA hn hm hA' hn' hm' hx).mono fun e w' ⟨h, hb⟩ => by
    obtain ⟨mv, hs⟩ := walk_long x l o
    rw [hs] at h
    exact ⟨mv, h, hb⟩
theorem out_some {outs : List Fr} {v : Nat} {w e : Int} (h : outF outs v = some (w, e)) : outs[v]!.weight = w := by
  unfold outF at h
  split at h
  · simp only [Option.some.injEq, Prod.mk.injEq] at h; rw [← h.1, Int.toNat_natCast]
  · cases h
theorem in_edges {N : Nat} {l : List Edge} (hg : graphErr N l = 0) : ∀ e ∈ l, (0 ≤ e.a ∧ e.a < N) ∧ (0 ≤ e.b ∧ e.b < N) := fun e he => by
  have := (graphErr_ok hg).2.2 e he
  omega
/-- the document's row of distances is the program's -/
theorem far_same {N s : Nat} {l : List Edge} {L : Nat → Lab} {outs : List Fr} (hg : graphErr N l = 0) (hs : s < N) (h : Lbs l N s L) (hc : ∀ e ∈ l, closedE L e) (hl : outs.length = N) (hD : Short (arcs false l) (s : Int) N (outF outs)) (hw : ∀ i, i < N → outs[i]!.weight = -1 ∨ 0 ≤ outs[i]!.weight) :
    outs.map (·.weight) = (List.range N).map (farV L) := by
  have hN : N ≤ 16 := by have := (graphErr_ok hg).1; omega
  apply List.ext_getElem
  · simp [hl]
  · intro i h1 h2
    have hi : i < N := by simpa using h2
    have e1 : outs[i]! = outs[i]'(by omega) := by rw [getElem!_pos outs i (by omega)]
    simp only [List.getElem_map, List.getElem_range]
    rw [← e1]
    unfold farV
    rcases h.far hs hN (in_edges hg) hc hD hi with ⟨h3, h4⟩ | ⟨h3, h4⟩
    · rw [if_pos (by rw [h4]; rfl)]
      rcases hw i hi with h5 | h5
      · exact h5
      · have : outF outs (i : Int) = some (outs[i]!.weight, outs[i]!.edges) := by
          unfold outF
          rw [Int.toNat_natCast, if_pos ⟨by omega, by omega, h5⟩]
        rw [this] at h3; cases h3
    · rw [if_neg (fun h5 => h3 (List.eq_nil_of_length_eq_zero h5)), out_some h4]
/-- path.Way answers what the document's labels tell -/
theorem way_same {w w' : World} {N s t : Nat} {l : List Edge} {L : Nat → Lab} {e : Ending} (hg : graphErr N l = 0) (hs : s < N) (ht : t < N) (h : Lbs l N s L) (hc : ∀ e ∈ l, closedE L e) (hW : WayOK w N l s t e w') :
    (((L t).2.length = 0 ∧ e = .returned (.tuple #[.slice none 0 0, .iface 53 (.int .i64 5)])) ∨
      ((L t).2.length ≠ 0 ∧ ∃ V cv, e = .returned (.tuple #[.slice V (L t).2.length cv, .nilIface]) ∧ Cells w' w'.heap.size V (ints (L t).2))) ∧ Below w.heap.size w w' := by
  have hN : N ≤ 16 := by have := (graphErr_ok hg).1; omega
  obtain ⟨D, hD, hb, hW⟩ := hW
  refine ⟨?_, hb⟩
  rcases h.way hs hN (in_edges hg) hc ht hD with ⟨h1, h2⟩ | ⟨wt, k, h1, h2⟩
  · left
    refine ⟨by rw [h2]; rfl, ?_⟩
    rcases hW with ⟨_, h3⟩ | ⟨_, _, _, _, h3, _⟩
    · exact h3
    · rw [h1] at h3; cases h3
  · right
    refine ⟨by rw [h2]; simp, ?_⟩
    rcases hW with ⟨h3, _⟩ | ⟨wt', k', g, c, h3, _, h4, h5⟩
    · rw [h1] at h3; cases h3
    · rw [h1] at h3
      injection h3 with h3
      injection h3 with h6 h7
      have hk : k = k' := by omega
      subst hk
      have hlen : (L t).2.length = k + 1 := by rw [h2, List.length_cons, wayFrom_len]
      refine ⟨some ⟨g, 0, none⟩, c, by rw [hlen]; exact h4, ?_⟩
      rw [h2]
      exact h5.own (by omega)
theorem path_one (N : Int) (l : List Edge) (s : Int) : pathErr N l [s] = if graphErr N l = 0 ∧ (s < 0 ∨ N ≤ s) then 1 else graphErr N l := by
  by_cases h : graphErr N l = 0
  · have e1 : pathErr N l [s] = if inB s 0 (N - 1) = true then 0 else 1 := by unfold pathErr; rw [if_pos h]; rfl
    rw [e1]
    by_cases h2 : s < 0 ∨ N ≤ s
    · rw [if_neg (fun h3 => by have := of_inB h3; omega), if_pos ⟨h, h2⟩]
    · rw [if_pos (inB_true (by omega)), if_neg (fun h3 => h2 h3.2), h]
  · rw [if_neg (fun h3 => h h3.1)]; exact if_neg h
theorem path_two (N : Int) (l : List Edge) (s t : Int) : pathErr N l [s, t] = if pathErr N l [s] = 0 ∧ (t < 0 ∨ N ≤ t) then 1 else pathErr N l [s] := by
  by_cases h : graphErr N l = 0
  · have e1 : pathErr N l [s] = if inB s 0 (N - 1) = true then 0 else 1 := by unfold pathErr; rw [if_pos h]; rfl
    have e2 : pathErr N l [s, t] = if inB s 0 (N - 1) = true then (if inB t 0 (N - 1) = true then 0 else 1) else 1 := by unfold pathErr; rw [if_pos h]; rfl
    by_cases h1 : inB s 0 (N - 1) = true
    · rw [if_pos h1] at e1 e2
      rw [e2]
      by_cases h2 : t < 0 ∨ N ≤ t
      · rw [if_neg (fun h3 => by have := of_inB h3; omega), if_pos ⟨e1, h2⟩]
      · rw [if_pos (inB_true (by omega)), if_neg (fun h3 => h2 h3.2), e1]
    · rw [if_neg h1] at e1 e2
      rw [e2, if_neg (fun h3 => by have := h3.1; omega), e1]
  · have e1 : pathErr N l [s] = graphErr N l := if_neg h
    have e2 : pathErr N l [s, t] = graphErr N l := if_neg h
    rw [e2, if_neg (fun h3 => h (by rw [← e1]; exact h3.1)), e1]
end Go.Proofs.YtmcfhiddhifdcaaDoor
