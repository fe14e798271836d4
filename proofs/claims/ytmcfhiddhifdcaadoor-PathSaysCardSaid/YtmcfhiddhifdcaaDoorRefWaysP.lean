/- Plain: labels of ways: the lightest ones, of these the shortest, of these the first by their nodes; they are what path.Far and path.Way tell. Conditions: none. -/
import Derived.Test.YtmcfhiddhifdcaaDoorLongP
namespace Go.Proofs.YtmcfhiddhifdcaaDoor
/-- a label: its weight, its nodes (none: there is no way) -/
abbrev Lab := Int × List Int
def lexB : List Int → List Int → Bool
  | x :: xs, y :: ys => if x = y then lexB xs ys else decide (x < y)
  | _, _ => false
def betterB (a b : Lab) : Bool := if b.2 = [] then true else if a.1 = b.1 then (if a.2.length = b.2.length then lexB a.2 b.2 else decide (a.2.length < b.2.length)) else decide (a.1 < b.1)
def valR (xs : List Int) (a : Nat) : Nat := xs.foldl (fun a x => a * 16 + x.toNat) a
def Nod (xs : List Int) : Prop := ∀ x ∈ xs, 0 ≤ x ∧ x < 16
theorem Nod.tail {x : Int} {xs : List Int} (h : Nod (x :: xs)) : Nod xs := fun y hy => h y (by simp [hy])
theorem Nod.snoc {x : Int} {xs : List Int} (h : Nod xs) (hx : 0 ≤ x ∧ x < 16) : Nod (xs ++ [x]) := fun y hy => by
  rcases List.mem_append.1 hy with hy | hy
  · exact h y hy
  · simp at hy; subst hy; exact hx
theorem valR_lt : ∀ (xs ys : List Int) (a b : Nat), Nod xs → Nod ys → xs.length = ys.length → a < b → valR xs a < valR ys b := by
  intro xs
  induction xs with
  | nil =>
    intro ys a b _ _ hl h
    cases ys with
    | nil => exact h
    | cons y ys => simp at hl
  | cons x xs ih =>
    intro ys a b hx hy hl h
    cases ys with
    | nil => simp at hl
    | cons y ys =>
      have h1 := hx x (by simp)
      have h2 := hy y (by simp)
      exact ih ys _ _ hx.tail hy.tail (by simpa using hl) (by show a * 16 + x.toNat < b * 16 + y.toNat; omega)
theorem lexB_iff : ∀ (xs ys : List Int) (a : Nat), Nod xs → Nod ys → xs.length = ys.length → (lexB xs ys = true ↔ valR xs a < valR ys a) := by
  intro xs
  induction xs with
  | nil =>
    intro ys a _ _ hl
    cases ys with
    | nil => simp [lexB]
    | cons y ys => simp at hl
  | cons x xs ih =>
    intro ys a hx hy hl
    cases ys with
    | nil => simp at hl
    | cons y ys =>
      have h1 := hx x (by simp)
      have h2 := hy y (by simp)
      have hl' : xs.length = ys.length := by simpa using hl
      show lexB (x :: xs) (y :: ys) = true ↔ valR xs (a * 16 + x.toNat) < valR ys (a * 16 + y.toNat)
      simp only [lexB]
      by_cases e : x = y
      · rw [if_pos e, e]; exact ih ys _ hx.tail hy.tail hl'
      · rw [if_neg e, decide_eq_true_iff]
        constructor
        · intro h; exact valR_lt xs ys _ _ hx.tail hy.tail hl' (by omega)
        · intro h
          rcases Int.lt_or_lt_of_ne e with h3 | h3
          · exact h3
          · have := valR_lt ys xs (a * 16 + y.toNat) (a * 16 + x.toNat) hy.tail hx.tail hl'.symm (by omega)
            omega
theorem valR_snoc (xs : List Int) (x : Int) (a : Nat) : valR (xs ++ [x]) a = valR xs a * 16 + x.toNat := by simp [valR]
theorem valR_bound : ∀ (xs : List Int) (a : Nat), Nod xs → valR xs a < (a + 1) * 16 ^ xs.length := by
  intro xs
  induction xs with
  | nil => intro a _; simp [valR]
  | cons x xs ih =>
    intro a h
    have h1 := h x (by simp)
    have h2 := ih (a * 16 + x.toNat) h.tail
    have h3 : (a * 16 + x.toNat + 1) * 16 ^ xs.length ≤ (a + 1) * 16 ^ (x :: xs).length := by
      rw [List.length_cons, Nat.pow_succ, Nat.mul_comm (16 ^ xs.length) 16, ← Nat.mul_assoc]
      exact Nat.mul_le_mul_right _ (by omega)
    exact Nat.lt_of_lt_of_le h2 h3
/-- ahead: by weight, by length, by nodes -/
def lt3 (a b : Lab) : Prop := a.1 < b.1 ∨ (a.1 = b.1 ∧ (a.2.length < b.2.length ∨ (a.2.length = b.2.length ∧ valR a.2 0 < valR b.2 0)))
theorem better_iff {a b : Lab} (ha : Nod a.2) (hb : Nod b.2) (h0 : b.2 ≠ []) : betterB a b = true ↔ lt3 a b := by
  unfold betterB lt3
  rw [if_neg h0]
  by_cases h1 : a.1 = b.1
  · rw [if_pos h1]
    by_cases h2 : a.2.length = b.2.length
    · rw [if_pos h2, lexB_iff _ _ 0 ha hb h2]; omega
    · rw [if_neg h2, decide_eq_true_iff]; omega
  · rw [if_neg h1, decide_eq_true_iff]; omega
theorem better_none {a b : Lab} (h0 : b.2 = []) : betterB a b = true := if_pos h0
/-- one node more, along an edge -/
def extL (x : Lab) (e : Edge) : Lab := (x.1 + e.weight, x.2 ++ [e.b])
theorem lt3_ext {a b : Lab} {e : Edge} (h : ¬ lt3 a b) : ¬ lt3 (extL a e) (extL b e) := by
  unfold lt3 extL at *
  simp only [List.length_append, List.length_cons, List.length_nil, valR_snoc]
  omega
theorem lt3_trans {a b c : Lab} (h1 : ¬ lt3 b a) (h2 : ¬ lt3 c b) : ¬ lt3 c a := by unfold lt3 at *; omega
/-- walks from s, by their nodes -/
inductive Ws (l : List Edge) (s : Int) : Int → Int → List Int → Prop
  | one : Ws l s s 0 [s]
  | more {u w : Int} {ns : List Int} {e : Edge} : Ws l s u w ns → e ∈ l → e.a = u → Ws l s e.b (w + e.weight) (ns ++ [e.b])
section
variable {l : List Edge} {s : Int} {v w : Int} {ns : List Int}
theorem Ws.pos (h : Ws l s v w ns) : 0 < ns.length := by
  cases h with
  | one => simp
  | more _ _ _ => simp
theorem Ws.reach (h : Ws l s v w ns) : Reach (arcs false l) s v w ((ns.length : Int) - 1) := by
  induction h with
  | one => exact Reach.start
  | more h1 h2 h3 ih =>
    have := ih.step (mem_arcs_false.2 ⟨_, h2, h3, rfl, rfl⟩)
    simpa [Int.sub_add_cancel] using this
theorem Ws.of_reach {e : Int} (h : Reach (arcs false l) s v w e) : ∃ ns, Ws l s v w ns ∧ (ns.length : Int) = e + 1 := by
  induction h with
  | start => exact ⟨[s], Ws.one, by simp⟩
  | step _ hg ih =>
    obtain ⟨ns, h1, h2⟩ := ih
    obtain ⟨e, he, e1, e2, e3⟩ := mem_arcs_false.1 hg
    subst e2 e3
    exact ⟨_, h1.more he e1, by simp; omega⟩
theorem Ws.light (hw : ∀ e ∈ l, 0 ≤ e.weight ∧ e.weight ≤ 1000) (h : Ws l s v w ns) : 0 ≤ w ∧ w ≤ 1000 * ((ns.length : Int) - 1) := by
  induction h with
  | one => simp
  | more h1 h2 h3 ih => have := hw _ h2; simp; omega
theorem Ws.nod {N : Nat} (hs : 0 ≤ s ∧ s < N) (hb : ∀ e ∈ l, 0 ≤ e.b ∧ e.b < N) (h : Ws l s v w ns) : (∀ x ∈ ns, 0 ≤ x ∧ x < N) ∧ (0 ≤ v ∧ v < N) := by
  induction h with
  | one => exact ⟨fun x hx => by simp at hx; subst hx; exact hs, hs⟩
  | more h1 h2 h3 ih =>
    have := hb _ h2
    refine ⟨fun x hx => ?_, this⟩
    rcases List.mem_append.1 hx with hx | hx
    · exact ih.1 x hx
    · simp at hx; subst hx; exact this
end
/-- the labels of all nodes, so far -/
structure Lbs (l : List Edge) (N s : Nat) (L : Nat → Lab) : Prop where
  first : L s = (0, [(s : Int)])
  ws : ∀ v, v < N → (L v).2 ≠ [] → Ws l s v (L v).1 (L v).2
  once : ∀ v, v < N → (L v).2.Nodup
  inN : ∀ v, v < N → ∀ x ∈ (L v).2, 0 ≤ x ∧ x < N
  pre : ∀ v, v < N → ∀ x ∈ (L v).2, (L x.toNat).2 ≠ [] ∧ le2 (L x.toNat).1 (L x.toNat).2.length (L v).1 (L v).2.length
def setL (L : Nat → Lab) (b : Nat) (x : Lab) : Nat → Lab := fun v => if v = b then x else L v
theorem setL_same (L : Nat → Lab) (b : Nat) (x : Lab) : setL L b x b = x := if_pos rfl
theorem setL_ne {L : Nat → Lab} {b v : Nat} {x : Lab} (h : v ≠ b) : setL L b x v = L v := if_neg h
def startL (s : Nat) : Nat → Lab := setL (fun _ => (0, [])) s (0, [(s : Int)])
theorem Lbs.start {l : List Edge} {N s : Nat} (hs : s < N) : Lbs l N s (startL s) := by
  have hx : ∀ v, v ≠ s → startL s v = (0, []) := fun v h => setL_ne h
  have hy : startL s s = (0, [(s : Int)]) := setL_same _ _ _
  refine ⟨hy, fun v hv h => ?_, fun v hv => ?_, fun v hv x hm => ?_, fun v hv x hm => ?_⟩
  · by_cases e : v = s
    · subst e; rw [hy]; exact Ws.one
    · rw [hx v e] at h; simp at h
  · by_cases e : v = s
    · subst e; rw [hy]; simp
    · rw [hx v e]; simp
  · by_cases e : v = s
    · subst e; rw [hy] at hm; simp at hm; omega
    · rw [hx v e] at hm; simp at hm
  · by_cases e : v = s
    · subst e; rw [hy] at hm; simp at hm; subst hm
      rw [Int.toNat_natCast, hy]
      exact ⟨by simp, by unfold le2; omega⟩
    · rw [hx v e] at hm; simp at hm
theorem nodup_len : ∀ (N : Nat) (xs : List Int), xs.Nodup → (∀ x ∈ xs, 0 ≤ x ∧ x < N) → xs.length ≤ N := by
  intro N
  induction N with
  | zero =>
    intro xs _ h
    cases xs with
    | nil => simp
    | cons x xs => have := h x (by simp); omega
  | succ N ih =>
    intro xs hn h
    have h1 := ih (xs.erase (N : Int)) (hn.erase _) (fun x hx => by
      have h2 := h x (List.mem_of_mem_erase hx)
      have h3 : x ≠ (N : Int) := ((List.Nodup.mem_erase_iff hn).1 hx).1
      omega)
    have h4 := List.length_erase (a := (N : Int)) (l := xs)
    split at h4 <;> omega
section
variable {l : List Edge} {N s : Nat} {L : Nat → Lab}
theorem Lbs.nod (h : Lbs l N s L) (hN : N ≤ 16) {v : Nat} (hv : v < N) : Nod (L v).2 := fun x hx => by have := h.inN v hv x hx; omega
theorem Lbs.len (h : Lbs l N s L) {v : Nat} (hv : v < N) : (L v).2.length ≤ N := nodup_len N _ (h.once v hv) (h.inN v hv)
theorem lt3_le2 {a b : Lab} (h : lt3 a b) : le2 a.1 a.2.length b.1 b.2.length := by unfold lt3 at h; unfold le2; omega
/-- a better label of one node -/
theorem Lbs.put (h : Lbs l N s L) (hs : s < N) (hN : N ≤ 16) (hw : ∀ e ∈ l, 0 ≤ e.weight ∧ e.weight ≤ 1000) {e : Edge} {a b : Nat} (he : e ∈ l) (ea : e.a = a) (eb : e.b = b) (ha : a < N) (hb : b < N) (h0 : (L a).2 ≠ [])
    (hx : betterB (extL (L a) e) (L b) = true) : Lbs l N s (setL L b (extL (L a) e)) ∧ b ∉ (L a).2.map Int.toNat := by
  have hwe := hw e he
  have hwa := h.ws a ha h0
  have hla := hwa.pos
  have hl0 := hwa.light hw
  have hbN : 0 ≤ e.b ∧ e.b < 16 := by omega
  have hlt : (L b).2 ≠ [] → lt3 (extL (L a) e) (L b) := fun h1 => (better_iff ((h.nod hN ha).snoc hbN) (h.nod hN hb) h1).1 hx
  have hnot : (b : Int) ∉ (L a).2 := fun hm => by
    obtain ⟨h1, h2⟩ := h.pre a ha _ hm
    rw [Int.toNat_natCast] at h1 h2
    have h3 := hlt h1
    unfold lt3 extL at h3
    unfold le2 at h2
    simp only [List.length_append, List.length_cons, List.length_nil] at h3
    omega
  have hbs : b ≠ s := fun e1 => by
    subst e1
    have h3 := hlt (by rw [h.first]; simp)
    rw [h.first] at h3
    unfold lt3 extL at h3
    simp only [List.length_append, List.length_cons, List.length_nil] at h3
    omega
  have hle : (L b).2 ≠ [] → le2 (extL (L a) e).1 (extL (L a) e).2.length (L b).1 (L b).2.length := fun h1 => lt3_le2 (hlt h1)
  have hne : (extL (L a) e).2 ≠ [] := by simp [extL]
  refine ⟨⟨by rw [setL_ne (fun e1 => hbs e1.symm)]; exact h.first, fun v hv h1 => ?_, fun v hv => ?_, fun v hv x hm => ?_, fun v hv x hm => ?_⟩, fun hm => ?_⟩
  · by_cases e1 : v = b
    · subst e1
      rw [setL_same]
      have := hwa.more he ea
      rw [eb] at this
      rw [extL, eb]; exact this
    · rw [setL_ne e1] at h1 ⊢
      exact h.ws v hv h1
  · by_cases e1 : v = b
    · subst e1
      rw [setL_same, extL, eb]
      exact List.nodup_append.2 ⟨h.once a ha, by simp, by intro x hx y hy; simp at hy; subst hy; exact fun e2 => hnot (e2 ▸ hx)⟩
    · rw [setL_ne e1]; exact h.once v hv
  · by_cases e1 : v = b
    · subst e1
      rw [setL_same, extL] at hm
      rcases List.mem_append.1 hm with hm | hm
      · exact h.inN a ha x hm
      · simp at hm; omega
    · rw [setL_ne e1] at hm; exact h.inN v hv x hm
  · -- what is ahead of a node on its way
    have key : ∀ y : Nat, (L y).2 ≠ [] → (setL L b (extL (L a) e) y).2 ≠ [] ∧ le2 (setL L b (extL (L a) e) y).1 (setL L b (extL (L a) e) y).2.length (L y).1 (L y).2.length := fun y hy => by
      by_cases e1 : y = b
      · subst e1; rw [setL_same]; exact ⟨hne, hle hy⟩
      · rw [setL_ne e1]; exact ⟨hy, by unfold le2; omega⟩
    by_cases e1 : v = b
    · subst e1
      rw [setL_same (b := v)]
      rw [setL_same, extL] at hm
      rcases List.mem_append.1 hm with hm | hm
      · obtain ⟨h1, h2⟩ := h.pre a ha x hm
        obtain ⟨h3, h4⟩ := key _ h1
        refine ⟨h3, ?_⟩
        unfold le2 at *
        show _ < (L a).1 + e.weight ∨ _ = (L a).1 + e.weight ∧ _ ≤ (((L a).2 ++ [e.b]).length : Int)
        simp only [List.length_append, List.length_cons, List.length_nil]
        omega
      · simp at hm
        rw [hm, eb, Int.toNat_natCast, setL_same]
        exact ⟨hne, by unfold le2; omega⟩
    · rw [setL_ne (v := v) e1]
      rw [setL_ne e1] at hm
      obtain ⟨h1, h2⟩ := h.pre v hv x hm
      obtain ⟨h3, h4⟩ := key _ h1
      exact ⟨h3, by unfold le2 at *; omega⟩
  · obtain ⟨x, h1, h2⟩ := List.mem_map.1 hm
    have := h.inN a ha x h1
    exact hnot (by rw [← h2, show ((x.toNat : Nat) : Int) = x by omega]; exact h1)
/-- how far a label is from the best that there may be -/
def codeL (x : Lab) : Nat := if x.2 = [] then 2 ^ 100 else (x.1.toNat * 17 + x.2.length) * 16 ^ 16 + valR x.2 0
def totL (L : Nat → Lab) : Nat → Nat
  | 0 => 0
  | n + 1 => totL L n + codeL (L n)
theorem totL_put {L : Nat → Lab} {b : Nat} {x : Lab} (h : codeL x < codeL (L b)) : ∀ n, totL (setL L b x) n ≤ totL L n ∧ (b < n → totL (setL L b x) n < totL L n) := by
  intro n
  induction n with
  | zero => exact ⟨Nat.le_refl _, fun h => absurd h (by omega)⟩
  | succ n ih =>
    simp only [totL]
    by_cases e : n = b
    · subst e; rw [setL_same]; exact ⟨by omega, fun _ => by omega⟩
    · rw [setL_ne e]; exact ⟨by omega, fun h1 => by have := ih.2 (by omega); omega⟩
theorem Lbs.falls (h : Lbs l N s L) (hs : s < N) (hN : N ≤ 16) (hw : ∀ e ∈ l, 0 ≤ e.weight ∧ e.weight ≤ 1000) {e : Edge} {a b : Nat} (he : e ∈ l) (ea : e.a = a) (eb : e.b = b) (ha : a < N) (hb : b < N) (h0 : (L a).2 ≠ [])
    (hx : betterB (extL (L a) e) (L b) = true) : totL (setL L b (extL (L a) e)) N < totL L N := by
  have hp := (h.put hs hN hw he ea eb ha hb h0 hx).1
  have hne : (extL (L a) e).2 ≠ [] := by simp [extL]
  have h1 := hp.len hb
  have h2 := hp.nod hN hb
  have h3 := (hp.ws b hb (by rw [setL_same]; exact hne)).light hw
  rw [setL_same] at h1 h2 h3
  have hbd : ∀ y : Lab, Nod y.2 → y.2.length ≤ 16 → valR y.2 0 < 16 ^ 16 := fun y hy hl => by
    have h4 := valR_bound y.2 0 hy
    have h5 : (16 : Nat) ^ y.2.length ≤ 16 ^ 16 := Nat.pow_le_pow_right (by omega) hl
    omega
  have h4 := hbd _ h2 (by omega)
  refine (totL_put ?_ N).2 hb
  unfold codeL
  rw [if_neg hne]
  by_cases h5 : (L b).2 = []
  · rw [if_pos h5]; omega
  · rw [if_neg h5]
    have hbN : 0 ≤ e.b ∧ e.b < 16 := by omega
    have h6 := (better_iff ((h.nod hN ha).snoc hbN) (h.nod hN hb) h5).1 hx
    have h7 := h.len hb
    have h8 := hbd _ (h.nod hN hb) (by omega)
    have h9 := (h.ws b hb h5).light hw
    unfold lt3 at h6
    generalize valR (extL (L a) e).2 0 = p1 at *
    generalize valR (L b).2 0 = p2 at *
    generalize (extL (L a) e).2.length = p3 at *
    generalize (L b).2.length = p4 at *
    generalize (extL (L a) e).1 = p5 at *
    generalize (L b).1 = p6 at *
    omega
/-- along an edge there is nothing better -/
def closedE (L : Nat → Lab) (e : Edge) : Prop := (L e.a.toNat).2 ≠ [] → betterB (extL (L e.a.toNat) e) (L e.b.toNat) = false
theorem Lbs.least (h : Lbs l N s L) (hs : s < N) (hN : N ≤ 16) (hl : ∀ e ∈ l, (0 ≤ e.a ∧ e.a < N) ∧ (0 ≤ e.b ∧ e.b < N)) (hc : ∀ e ∈ l, closedE L e) {v w : Int} {ns : List Int} (hW : Ws l s v w ns) :
    (L v.toNat).2 ≠ [] ∧ ¬ lt3 (w, ns) (L v.toNat) := by
  induction hW with
  | one =>
    rw [Int.toNat_natCast, h.first]
    exact ⟨by simp, by unfold lt3; omega⟩
  | more h1 h2 h3 ih =>
    rename_i u w ns e
    obtain ⟨i1, i2⟩ := ih
    rw [← h3] at i1 i2
    have hr := hl e h2
    have hcl := hc e h2 i1
    have hne : (L e.b.toNat).2 ≠ [] := fun h5 => by rw [better_none h5] at hcl; simp at hcl
    refine ⟨hne, ?_⟩
    have hna := h.nod hN (v := e.a.toNat) (by omega)
    have hnb := h.nod hN (v := e.b.toNat) (by omega)
    have h5 : ¬ lt3 (extL (L e.a.toNat) e) (L e.b.toNat) := fun h6 => by
      rw [(better_iff (hna.snoc (by omega)) hnb hne).2 h6] at hcl; simp at hcl
    exact lt3_trans h5 (lt3_ext (e := e) i2)
end
/-- walks by what is behind their first node -/
inductive Wh (l : List Edge) : Int → Int → Int → List Int → Prop
  | one (t : Int) : Wh l t t 0 []
  | more {t w : Int} {r : List Int} {e : Edge} : e ∈ l → Wh l e.b t w r → Wh l e.a t (e.weight + w) (e.b :: r)
section
variable {l : List Edge}
theorem Wh.snoc {u v w : Int} {r : List Int} {e : Edge} (h : Wh l u v w r) (he : e ∈ l) (hv : e.a = v) : Wh l u e.b (w + e.weight) (r ++ [e.b]) := by
  induction h with
  | one t =>
    have := Wh.more he (Wh.one (l := l) e.b)
    rw [Int.add_zero] at this
    rw [Int.zero_add, ← hv]
    exact this
  | more h1 _ ih =>
    rw [Int.add_assoc]
    exact Wh.more h1 (ih hv)
theorem Ws.wh {s v w : Int} {ns : List Int} (h : Ws l s v w ns) : ∃ r, ns = s :: r ∧ Wh l s v w r := by
  induction h with
  | one => exact ⟨[], rfl, Wh.one _⟩
  | more _ h2 h3 ih =>
    obtain ⟨r, rfl, h4⟩ := ih
    exact ⟨_, rfl, h4.snoc h2 h3⟩
theorem Wh.ws {s u v w : Int} {r : List Int} (h : Wh l u v w r) : ∀ {w0 : Int} {ns : List Int}, Ws l s u w0 ns → Ws l s v (w0 + w) (ns ++ r) := by
  induction h with
  | one t => intro w0 ns h; simpa using h
  | more h1 _ ih =>
    intro w0 ns h
    have := ih (h.more h1 rfl)
    rw [← Int.add_assoc]
    simpa [List.append_assoc] using this
theorem Wh.reach {u t w : Int} {r : List Int} (h : Wh l u t w r) : Reach (arcs true l) t u w r.length := by
  induction h with
  | one t => exact Reach.start
  | more h1 _ ih =>
    have := ih.step (mem_arcs_true.2 ⟨_, h1, rfl, rfl, rfl⟩)
    rw [Int.add_comm] at this
    simpa using this
variable {t : Int} {N : Nat} {D : Int → Option (Int × Int)}
theorem way_walk (hD : Short (arcs true l) t N D) (hl : ∀ e ∈ l, 0 ≤ e.b) : ∀ (k : Nat) (u w : Int), D u = some (w, (k : Int)) → Wh l u t w (wayFrom l D k u) := by
  intro k
  induction k with
  | zero =>
    intro u w hu
    obtain ⟨rfl, rfl⟩ := at_end hD hu
    exact Wh.one _
  | succ k ih =>
    intro u w hu
    obtain ⟨e, he, h1, h2, h3, _⟩ := next_is hD hl hu (by omega)
    have h4 := ih (nextOf l D u) (w - e.weight) (by rw [h3]; congr 2; omega)
    rw [← h2] at h4
    have h5 := Wh.more he h4
    rw [h1, h2, show e.weight + (w - e.weight) = w by omega] at h5
    exact h5
/-- of the best ways the first by its nodes -/
theorem way_first (hD : Short (arcs true l) t N D) (hl : ∀ e ∈ l, 0 ≤ e.b) {u w : Int} {r : List Int} (h : Wh l u t w r) : D u = some (w, (r.length : Int)) → lexB (wayFrom l D r.length u) r = false → r = wayFrom l D r.length u := by
  induction h with
  | one t => intro _ _; rfl
  | more h1 h2 ih =>
    rename_i t w r e
    intro hu hx
    obtain ⟨w1, e1, g1, g2⟩ := hD.least h2.reach
    obtain ⟨w2, e2, g3, g4⟩ := hD.closed _ _ _ g1 _ _ (mem_arcs_true.2 ⟨e, h1, rfl, rfl, rfl⟩)
    rw [hu] at g3
    injection g3 with g3
    injection g3 with g5 g6
    simp only [List.length_cons] at g6
    have g7 : w1 = w ∧ e1 = r.length := by unfold le2 at g2 g4; omega
    rw [g7.1, g7.2] at g1
    have hs : stepB D e.a e = true := (stepB_iff hu).2 ⟨rfl, by rw [g1]; congr 2 <;> (try simp only [List.length_cons]) <;> omega⟩
    have hn := (nextFrom_spec D e.a l (-1) hl).2.2.1 e h1 hs
    simp only [List.length_cons, wayFrom, lexB] at hx ⊢
    by_cases h3 : nextOf l D e.a = e.b
    · rw [if_pos h3] at hx
      rw [h3] at hx ⊢
      rw [← ih hD g1 hx]
    · rw [if_neg h3] at hx
      have h4 : ¬ nextOf l D e.a < e.b := of_decide_eq_false hx
      have h5 : nextOf l D e.a ≤ e.b := hn
      omega
end
section
variable {l : List Edge} {N s : Nat} {L : Nat → Lab} {D : Int → Option (Int × Int)}
theorem Lbs.far (h : Lbs l N s L) (hs : s < N) (hN : N ≤ 16) (hl : ∀ e ∈ l, (0 ≤ e.a ∧ e.a < N) ∧ (0 ≤ e.b ∧ e.b < N)) (hc : ∀ e ∈ l, closedE L e) (hD : Short (arcs false l) s N D) {v : Nat} (hv : v < N) :
    (D v = none ∧ (L v).2 = []) ∨ ((L v).2 ≠ [] ∧ D v = some ((L v).1, ((L v).2.length : Int) - 1)) := by
  by_cases h0 : (L v).2 = []
  · left
    refine ⟨?_, h0⟩
    cases hd : D v with
    | none => rfl
    | some p =>
      obtain ⟨w, e⟩ := p
      obtain ⟨ns, h1, _⟩ := Ws.of_reach (hD.sound _ _ _ hd).1
      have := (h.least hs hN hl hc h1).1
      rw [Int.toNat_natCast] at this
      exact absurd h0 this
  · right
    refine ⟨h0, ?_⟩
    obtain ⟨w, e, h1, h2⟩ := hD.least (h.ws v hv h0).reach
    obtain ⟨ns, h3, h4⟩ := Ws.of_reach (hD.sound _ _ _ h1).1
    have h5 := (h.least hs hN hl hc h3).2
    rw [Int.toNat_natCast] at h5
    rw [h1]
    unfold lt3 at h5
    unfold le2 at h2
    simp only at h5
    congr 2 <;> omega
theorem Lbs.way (h : Lbs l N s L) (hs : s < N) (hN : N ≤ 16) (hl : ∀ e ∈ l, (0 ≤ e.a ∧ e.a < N) ∧ (0 ≤ e.b ∧ e.b < N)) (hc : ∀ e ∈ l, closedE L e) {t : Nat} (ht : t < N) (hD : Short (arcs true l) t N D) :
    (D s = none ∧ (L t).2 = []) ∨ (∃ (w : Int) (k : Nat), D s = some (w, (k : Int)) ∧ (L t).2 = (s : Int) :: wayFrom l D k s) := by
  have hb : ∀ e ∈ l, 0 ≤ e.b := fun e he => (hl e he).2.1
  by_cases h0 : (L t).2 = []
  · left
    refine ⟨?_, h0⟩
    cases hd : D s with
    | none => rfl
    | some p =>
      obtain ⟨w, e⟩ := p
      obtain ⟨k, rfl⟩ : ∃ k : Nat, e = k := ⟨e.toNat, by have := (hD.sound _ _ _ hd).2.2.1; omega⟩
      have h1 := (way_walk hD hb k s w hd).ws (Ws.one (l := l))
      have := (h.least hs hN hl hc h1).1
      rw [Int.toNat_natCast] at this
      exact absurd h0 this
  · right
    have h1 := h.ws t ht h0
    obtain ⟨r, hr, h2⟩ := h1.wh
    obtain ⟨w, e, h3, h4⟩ := hD.least h2.reach
    obtain ⟨k, rfl⟩ : ∃ k : Nat, e = k := ⟨e.toNat, by have := (hD.sound _ _ _ h3).2.2.1; omega⟩
    have h5 := (way_walk hD hb k s w h3).ws (Ws.one (l := l))
    have h6 := (h.least hs hN hl hc h5).2
    rw [Int.toNat_natCast] at h6
    have h7 : (L t).2.length = r.length + 1 := by rw [hr]; simp
    have hwl := wayFrom_len l D k s
    unfold lt3 at h6
    unfold le2 at h4
    simp only [List.length_cons, hwl, Int.zero_add, List.cons_append, List.nil_append] at h6
    have h8 : (L t).1 = w ∧ r.length = k := by omega
    have h8' : (L t).2.length = k + 1 := by omega
    refine ⟨w, k, h3, ?_⟩
    rw [hr]
    have hN1 : Nod ((s : Int) :: r) := by rw [← hr]; exact h.nod hN ht
    have hN2 : Nod ((s : Int) :: wayFrom l D k s) := fun x hx => by
      have := (h5.nod (N := N) (by omega) (fun e he => (hl e he).2)).1 x (by simpa using hx)
      omega
    have h9 : lexB ((s : Int) :: wayFrom l D k s) ((s : Int) :: r) = false := by
      have := lexB_iff _ _ 0 hN2 hN1 (by simp [hwl, h8.2])
      have h10 : ¬ valR ((s : Int) :: wayFrom l D k s) 0 < valR ((s : Int) :: r) 0 := by rw [← hr]; omega
      cases hb' : lexB ((s : Int) :: wayFrom l D k s) ((s : Int) :: r) with
      | false => rfl
      | true => exact absurd (this.1 hb') h10
    simp only [lexB, if_true] at h9
    have h11 := way_first hD hb h2 (by rw [h3, h8.1, h8.2]) (by rw [h8.2]; exact h9)
    rw [h8.2] at h11
    rw [← h11]
end
end Go.Proofs.YtmcfhiddhifdcaaDoor
