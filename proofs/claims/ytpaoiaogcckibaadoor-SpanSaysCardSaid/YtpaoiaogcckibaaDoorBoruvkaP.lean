/- Plain: of each group the lightest edge out of it is in the forest; when none goes out, all of the forest is there. Conditions: the graph is one that may be. -/
import Derived.Test.YtpaoiaogcckibaaDoorKruskalP
import Derived.Test.YtpaoiaogcckibaaDoorUnionCountsP
import Derived.Test.YtpaoiaogcckibaaDoorSortNone
namespace Go.Proofs.YtpaoiaogcckibaaDoor
open Go.RowKit
/-- the place of a thing's group among all groups -/
def gi (R : Nat → Nat) (n x : Nat) : Nat := (firsts R n).idxOf (R x)
theorem gi_lt {R : Nat → Nat} {n x : Nat} (hx : x < n) : gi R n x < (firsts R n).length := List.idxOf_lt_length_of_mem ((mem_firsts R n _).2 ⟨x, hx, rfl⟩)
theorem gi_at {R : Nat → Nat} {n x : Nat} (hx : x < n) : (firsts R n)[gi R n x]? = some (R x) := by
  rw [List.getElem?_eq_getElem (gi_lt hx)]; exact congrArg some (List.getElem_idxOf _)
theorem gi_eq {R : Nat → Nat} {n x y : Nat} (hx : x < n) (hy : y < n) : gi R n x = gi R n y ↔ R x = R y := by
  constructor
  · intro e
    have h1 := gi_at (R := R) hx
    have h2 := gi_at (R := R) hy
    rw [e, h2] at h1
    exact (Option.some.inj h1).symm
  · intro e; unfold gi; rw [e]
theorem gi_of {R : Nat → Nat} {n k r x : Nat} (hk : (firsts R n)[k]? = some r) (hr : R x = r) : gi R n x = k := by
  have hlt : k < (firsts R n).length := (List.getElem?_eq_some_iff.1 hk).1
  have hm : r ∈ firsts R n := List.mem_of_getElem? hk
  unfold gi
  rw [hr]
  have h1 := List.idxOf_lt_length_of_mem hm
  have h2 : (firsts R n)[(firsts R n).idxOf r] = r := List.getElem_idxOf h1
  exact (List.getElem_inj (xs := firsts R n) (h₀ := h1) (h₁ := hlt) (firsts_nodup R n)).1 (by rw [h2, (List.getElem?_eq_some_iff.1 hk).2])
/-- the k-th row's things are those of group k -/
theorem group_at {R : Nat → Nat} {n k : Nat} {xs : List Int} (hk : (groupsOf R n)[k]? = some xs) : ∀ x : Nat, (x : Int) ∈ xs ↔ x < n ∧ gi R n x = k := by
  unfold groupsOf at hk
  rw [List.getElem?_map] at hk
  cases hr : (firsts R n)[k]? with
  | none => rw [hr] at hk; cases hk
  | some r =>
    rw [hr] at hk
    simp only [Option.map_some, Option.some.injEq] at hk
    subst hk
    intro x
    have hm : (x : Int) ∈ members R n r ↔ x < n ∧ R x = r := by
      unfold members
      rw [List.mem_map]
      constructor
      · rintro ⟨y, hy, e⟩
        rw [List.mem_filter, List.mem_range] at hy
        have : y = x := by omega
        subst this
        exact ⟨hy.1, by simpa using hy.2⟩
      · rintro ⟨h1, h2⟩
        exact ⟨x, List.mem_filter.2 ⟨List.mem_range.2 h1, by simpa using h2⟩, rfl⟩
    rw [hm]
    constructor
    · rintro ⟨h1, h2⟩; exact ⟨h1, gi_of hr h2⟩
    · rintro ⟨h1, h2⟩
      refine ⟨h1, ?_⟩
      have := gi_at (R := R) h1
      rw [h2, hr] at this
      exact (Option.some.inj this).symm
theorem group_in {R : Nat → Nat} {n k : Nat} {xs : List Int} (hk : (groupsOf R n)[k]? = some xs) {y : Int} (hy : y ∈ xs) : ∃ x, x < n ∧ y = ((x : Nat) : Int) := groups_in R (List.mem_flatten.2 ⟨xs, List.mem_of_getElem? hk, hy⟩)
/-- a row of numbers by place -/
def fRow (n : Nat) (f : Nat → Int) : List Value := (List.range n).map fun i => .int .i64 (f i)
theorem fRow_at {n : Nat} {f : Nat → Int} {x : Nat} (hx : x < n) : (fRow n f)[x]? = some (.int .i64 (f x)) := by simp [fRow, hx]
theorem fRow_set {n : Nat} {f : Nat → Int} {x : Nat} {v : Int} : (fRow n f).set x (.int .i64 v) = fRow n fun i => if i = x then v else f i := by
  apply List.ext_getElem?
  intro i
  rw [List.getElem?_set]
  unfold fRow
  by_cases hi : i < n
  · by_cases e : x = i
    · subst e; simp [hi]
    · rw [if_neg e]
      have e' : ¬ i = x := fun h => e h.symm
      simp [hi, e']
  · have h1 : ¬ i < (List.map (fun i => Value.int .i64 (f i)) (List.range n)).length := by simpa using hi
    by_cases e : x = i
    · subst e; simp [hi]
    · rw [if_neg e]; simp [hi]
theorem fRow_zero (n : Nat) : List.replicate n (Value.int .i64 0) = fRow n fun _ => 0 := by
  unfold fRow; rw [List.map_const']; simp
/-- so far: what is in so many rows, and so much of the next, has its group's place -/
def Placed (R : Nat → Nat) (n : Nat) (k : Nat) (pre : List Int) (f : Nat → Int) : Prop := ∀ x, x < n → (gi R n x < k ∨ (x : Int) ∈ pre) → f x = gi R n x
theorem Placed.put {R : Nat → Nat} {n k j : Nat} {xs : List Int} {f : Nat → Int} (h : Placed R n k (xs.take j) f) (hk : (groupsOf R n)[k]? = some xs) {a : Nat} (ha : xs[j]? = some (a : Int)) : Placed R n k (xs.take (j + 1)) (fun i => if i = a then k else f i) := by
  intro x hx hc
  have hak := (group_at hk a).1 (List.mem_of_getElem? ha)
  by_cases e : x = a
  · subst e; show (if x = x then (k : Int) else f x) = _; rw [if_pos rfl, hak.2]
  · simp only [if_neg e]
    refine h x hx ?_
    rcases hc with hc | hc
    · exact Or.inl hc
    · right
      rw [List.take_add_one, ha] at hc
      simp only [Option.toList_some, List.mem_append, List.mem_singleton] at hc
      rcases hc with hc | hc
      · exact hc
      · omega
theorem Placed.row {R : Nat → Nat} {n k j : Nat} {xs : List Int} {f : Nat → Int} (h : Placed R n k (xs.take j) f) (hk : (groupsOf R n)[k]? = some xs) (hj : xs.length ≤ j) : Placed R n (k + 1) [] f := by
  intro x hx hc
  rw [List.take_of_length_le hj] at h
  refine h x hx ?_
  rcases hc with hc | hc
  · by_cases e : gi R n x = k
    · exact Or.inr ((group_at hk x).2 ⟨hx, e⟩)
    · exact Or.inl (by omega)
  · simp at hc
theorem Placed.all {R : Nat → Nat} {n k : Nat} {f : Nat → Int} (h : Placed R n k [] f) (hk : (groupsOf R n).length ≤ k) : ∀ x, x < n → f x = gi R n x := fun x hx => h x hx (Or.inl (by
  have := gi_lt (R := R) hx
  unfold groupsOf at hk
  rw [List.length_map] at hk
  omega))
section
variable {N : Nat} {l : List Edge} {R : Nat → Nat}
/-- an edge goes out of a group -/
def outG (R : Nat → Nat) (N : Nat) (k : Nat) (e : Edge) : Prop := gi R N e.a.toNat ≠ gi R N e.b.toNat ∧ (gi R N e.a.toNat = k ∨ gi R N e.b.toNat = k)
instance (R : Nat → Nat) (N k : Nat) (e : Edge) : Decidable (outG R N k e) := by unfold outG; infer_instance
/-- the lightest edge out of a group, of the first so many, and 1; 0: there is none -/
def lo (R : Nat → Nat) (N : Nat) (l : List Edge) (k : Nat) : Nat → Int
  | 0 => 0
  | i + 1 => if outG R N k (eAt l i) ∧ (lo R N l k i = 0 ∨ wOf l i < wOf l (lo R N l k i - 1)) then i + 1 else lo R N l k i
theorem lo_spec (k : Nat) : ∀ i : Nat, (lo R N l k i = 0 → ∀ j, j < i → ¬ outG R N k (eAt l j)) ∧ (lo R N l k i ≠ 0 → (1 ≤ lo R N l k i ∧ lo R N l k i ≤ i) ∧ outG R N k (eAt l (lo R N l k i - 1)) ∧ ∀ j : Nat, j < i → outG R N k (eAt l j) → ¬ Lt2 l j (lo R N l k i - 1)) := by
  intro i
  induction i with
  | zero => exact ⟨fun _ j hj => by omega, fun h => absurd rfl h⟩
  | succ i ih =>
    rw [lo]
    by_cases hc : outG R N k (eAt l i) ∧ (lo R N l k i = 0 ∨ wOf l i < wOf l (lo R N l k i - 1))
    · rw [if_pos hc]
      refine ⟨fun h => by omega, fun _ => ⟨⟨by omega, by omega⟩, by rw [show (i : Int) + 1 - 1 = i by omega]; exact hc.1, fun j hj ho => ?_⟩⟩
      rw [show (i : Int) + 1 - 1 = i by omega]
      unfold Lt2
      by_cases e : j = i
      · subst e; omega
      · by_cases h0 : lo R N l k i = 0
        · exact absurd ho (ih.1 h0 j (by omega))
        · have h1 := (ih.2 h0).2.2 j (by omega) ho
          unfold Lt2 at h1
          rcases hc.2 with h2 | h2
          · exact absurd h2 h0
          · omega
    · rw [if_neg hc]
      refine ⟨fun h j hj ho => ?_, fun h => ⟨⟨(ih.2 h).1.1, by have := (ih.2 h).1.2; omega⟩, (ih.2 h).2.1, fun j hj ho => ?_⟩⟩
      · by_cases e : j = i
        · subst e; exact hc ⟨ho, Or.inl h⟩
        · exact ih.1 h j (by omega) ho
      · by_cases e : j = i
        · subst e
          unfold Lt2
          have h1 := (ih.2 h).1.2
          have h2 : ¬ wOf l j < wOf l (lo R N l k j - 1) := fun h2 => hc ⟨ho, Or.inr h2⟩
          omega
        · exact (ih.2 h).2.2 j (by omega) ho
theorem edge_ends (hg : graphErr N l = 0) {j : Nat} (hj : j < l.length) : (eAt l j).a.toNat < N ∧ (eAt l j).b.toNat < N ∧ 0 ≤ (eAt l j).a ∧ 0 ≤ (eAt l j).b := by
  have h2 := (graphErr_ok hg).2.2 _ (eAt_mem (l := l) (i := (j : Int)) (by omega) (by omega))
  omega
/-- the lightest edge out of a group is in the forest -/
theorem lo_forest (hg : graphErr N l = 0) {k : Nat} (h : lo R N l k l.length ≠ 0) : inF N l (lo R N l k l.length - 1) = true := by
  obtain ⟨h1, h2, h3⟩ := (lo_spec (R := R) (N := N) (l := l) k l.length).2 h
  obtain ⟨q, hq⟩ : ∃ q : Nat, lo R N l k l.length - 1 = (q : Int) := ⟨(lo R N l k l.length - 1).toNat, by omega⟩
  rw [hq] at h2 h3 ⊢
  have hm : (q : Int) ∈ kord l := (kord_ord l).full _ (by omega) (by omega)
  obtain ⟨p, hp, hpe⟩ := List.getElem_of_mem hm
  have hp2 : (kord l)[p]? = some (q : Int) := by rw [List.getElem?_eq_getElem hp, hpe]
  refine (inF_forest N l).cut (kord_ends hg) (fun x => decide (gi R N x = k)) hp2 ?_ fun j hj => ?_
  · show decide (gi R N (eAt l q).a.toNat = k) ≠ decide (gi R N (eAt l q).b.toNat = k)
    obtain ⟨o1, o2⟩ := h2
    intro e
    rw [decide_eq_decide] at e
    rcases o2 with o2 | o2
    · exact o1 (by rw [o2, e.1 o2])
    · exact o1 (by rw [o2, e.2 o2])
  · obtain ⟨i, hi, hie⟩ := List.mem_take_iff_getElem.1 hj
    have hlt := kord_sorted l
    rw [List.pairwise_iff_getElem] at hlt
    have h4 := hlt i p (by omega) hp (by omega)
    rw [hie, hpe] at h4
    have hj2 := (kord_ord l).2.1 j (List.mem_of_mem_take hj)
    obtain ⟨jn, rfl⟩ : ∃ jn : Nat, j = jn := ⟨j.toNat, by omega⟩
    show decide (gi R N (eAt l jn).a.toNat = k) = decide (gi R N (eAt l jn).b.toNat = k)
    apply Classical.byContradiction
    intro hne
    refine h3 jn (by omega) ?_ h4
    rw [decide_eq_decide] at hne
    unfold outG
    by_cases ha : gi R N (eAt l jn).a.toNat = k
    · refine ⟨fun e => hne ⟨fun _ => by rw [← e]; exact ha, fun _ => ha⟩, Or.inl ha⟩
    · by_cases hb : gi R N (eAt l jn).b.toNat = k
      · exact ⟨fun e => ha (by rw [e]; exact hb), Or.inr hb⟩
      · exact absurd ⟨fun h => absurd h ha, fun h => absurd h hb⟩ hne
/-- an edge out of a group has ends that are apart -/
theorem lo_apart (hg : graphErr N l = 0) {k : Nat} (h : lo R N l k l.length ≠ 0) : R (eAt l (lo R N l k l.length - 1)).a.toNat ≠ R (eAt l (lo R N l k l.length - 1)).b.toNat := by
  obtain ⟨h1, h2, h3⟩ := (lo_spec (R := R) (N := N) (l := l) k l.length).2 h
  obtain ⟨q, hq⟩ : ∃ q : Nat, lo R N l k l.length - 1 = (q : Int) := ⟨(lo R N l k l.length - 1).toNat, by omega⟩
  rw [hq] at h2 ⊢
  obtain ⟨e1, e2, _⟩ := edge_ends hg (show q < l.length by omega)
  exact fun e => h2.1 ((gi_eq e1 e2).2 e)
/-- when none goes out, the ends of each are joined -/
theorem lo_none (hg : graphErr N l = 0) (h : ∀ k, k < (firsts R N).length → lo R N l k l.length = 0) {j : Nat} (hj : j < l.length) : R (eAt l j).a.toNat = R (eAt l j).b.toNat := by
  obtain ⟨e1, e2, _⟩ := edge_ends hg hj
  apply Classical.byContradiction
  intro hne
  have hgi : gi R N (eAt l j).a.toNat ≠ gi R N (eAt l j).b.toNat := fun e => hne ((gi_eq e1 e2).1 e)
  exact ((lo_spec (R := R) (N := N) (l := l) (gi R N (eAt l j).a.toNat) l.length).1 (h _ (gi_lt e1))) j hj ⟨hgi, Or.inl rfl⟩
/-- the edges that are in -/
def insOf (n : Nat) (ib : Nat → Bool) : List Int := (upto n).filter fun i => ib i.toNat
theorem mem_insOf {n : Nat} {ib : Nat → Bool} {i : Int} : i ∈ insOf n ib ↔ (0 ≤ i ∧ i < n) ∧ ib i.toNat = true := by
  unfold insOf
  rw [List.mem_filter, mem_upto]
theorem insOf_nodup (n : Nat) (ib : Nat → Bool) : (insOf n ib).Nodup := (upto_nodup n).filter _
theorem insOf_rising (n : Nat) (ib : Nat → Bool) : (insOf n ib).Pairwise (· < ·) := (upto_rising n).filter _
theorem Gen.perm {n : Nat} {E E' : List (Int × Int)} {R : Nat → Nat} (h : Gen n E R) (hp : ∀ p, p ∈ E ↔ p ∈ E') : Gen n E' R :=
  ⟨fun a b ha hb hm => h.resp a b ha hb ((hp _).2 hm), fun f hf => h.least f fun a b ha hb hm => hf a b ha hb ((hp _).1 hm)⟩
def putB (ib : Nat → Bool) (q : Nat) : Nat → Bool := fun i => if i = q then true else ib i
theorem mem_put {n q : Nat} {ib : Nat → Bool} (hq : q < n) {i : Int} : i ∈ insOf n (putB ib q) ↔ i ∈ insOf n ib ∨ i = q := by
  rw [mem_insOf, mem_insOf]
  unfold putB
  by_cases e : i.toNat = q
  · rw [if_pos e]
    constructor
    · rintro ⟨h1, _⟩; right; omega
    · rintro (⟨h1, _⟩ | h1)
      · exact ⟨h1, rfl⟩
      · exact ⟨by omega, rfl⟩
  · rw [if_neg e]
    constructor
    · rintro h; exact Or.inl h
    · rintro (h | h)
      · exact h
      · omega
theorem Gen.put {n q : Nat} {ib : Nat → Bool} (h : Gen N ((insOf n ib).map (eOf l) ++ [((eAt l q).a, (eAt l q).b)]) R) (hq : q < n) : Gen N ((insOf n (putB ib q)).map (eOf l)) R := by
  refine h.perm fun p => ?_
  rw [List.mem_append, List.mem_map, List.mem_map, List.mem_singleton]
  constructor
  · rintro (⟨i, hi, rfl⟩ | rfl)
    · exact ⟨i, (mem_put hq).2 (Or.inl hi), rfl⟩
    · exact ⟨(q : Int), (mem_put hq).2 (Or.inr rfl), rfl⟩
  · rintro ⟨i, hi, rfl⟩
    rcases (mem_put hq).1 hi with hi | rfl
    · exact Or.inl ⟨i, hi, rfl⟩
    · exact Or.inr rfl
theorem rising_eq {a b : List Int} (ha : a.Pairwise (· < ·)) (hb : b.Pairwise (· < ·)) (h : ∀ i, i ∈ a ↔ i ∈ b) : a = b := by
  have na : a.Nodup := by rw [List.nodup_iff_pairwise_ne]; exact ha.imp fun h => by omega
  have nb : b.Nodup := by rw [List.nodup_iff_pairwise_ne]; exact hb.imp fun h => by omega
  exact List.Perm.eq_of_pairwise (le := fun i j => i < j) (fun a b _ _ h1 h2 => by omega) ha hb ((List.perm_ext_iff_of_nodup na nb).2 h)
/-- edges of the forest that join the ends of all are the forest -/
theorem ins_forest (hg : graphErr N l = 0) {ib : Nat → Bool} (hin : ∀ i : Nat, i < l.length → ib i = true → inF N l i = true) (hR : Gen N ((insOf l.length ib).map (eOf l)) R) (hj : ∀ j : Nat, j < l.length → R (eAt l j).a.toNat = R (eAt l j).b.toNat) : insOf l.length ib = forest N l := by
  have hfor : ∀ i ∈ insOf l.length ib, i ∈ kord l ∧ inF N l i = true := fun i hi => by
    obtain ⟨h1, h2⟩ := mem_insOf.1 hi
    refine ⟨(kord_ord l).full i h1.1 h1.2, ?_⟩
    have := hin i.toNat (by omega) h2
    rwa [show (i.toNat : Int) = i by omega] at this
  refine rising_eq (insOf_rising _ _) (forest_rising N l) fun i => ?_
  constructor
  · intro hi
    exact mem_forest.2 ⟨(mem_insOf.1 hi).1, (hfor i hi).2⟩
  · intro hi
    obtain ⟨h1, h2⟩ := mem_forest.1 hi
    refine (inF_forest N l).full (kord_ends hg) (kord_ord l).2.2 hfor (insOf_nodup _ _) (fun j hj2 => ?_) i ((kord_ord l).full i h1.1 h1.2) h2
    have h3 := (kord_ord l).2.1 j hj2
    obtain ⟨jn, rfl⟩ : ∃ jn : Nat, j = jn := ⟨j.toNat, by omega⟩
    obtain ⟨e1, e2, _⟩ := edge_ends hg (show jn < l.length by omega)
    exact (hR.conn e1 e2).1 (hj jn (by omega))
end
end Go.Proofs.YtpaoiaogcckibaaDoor
