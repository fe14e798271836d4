/- Plain: the search for the least heaviest edge: what is settled, what is in the heap. Conditions: weights not below 0, and no more than 1000. -/
import Derived.Test.YtpaoiaogcckibaaDoorForest
import Derived.Test.YtpaoiaogcckibaaDoorHeapPlain
namespace Go.Proofs.YtpaoiaogcckibaaDoor
/-- both ways of each edge -/
def arcs2 (l : List Edge) : List (Int × Int × Int) := l.flatMap fun e => [(e.a, e.b, e.weight), (e.b, e.a, e.weight)]
/-- the pairs that arcs of no more than m join -/
def lightP (m : Int) (G : List (Int × Int × Int)) : List (Int × Int) := (G.filter fun a => decide (a.2.2 ≤ m)).map fun a => (a.1, a.2.1)
def lightE (m : Int) (l : List Edge) : List (Int × Int) := (l.filter fun e => decide (e.weight ≤ m)).map fun e => (e.a, e.b)
theorem mem_lightP {m : Int} {G : List (Int × Int × Int)} {u v : Int} : (u, v) ∈ lightP m G ↔ ∃ c, (u, v, c) ∈ G ∧ c ≤ m := by
  unfold lightP
  rw [List.mem_map]
  constructor
  · rintro ⟨⟨a, b, c⟩, h, hq⟩
    rw [List.mem_filter] at h
    simp only [Prod.mk.injEq] at hq
    obtain ⟨rfl, rfl⟩ := hq
    exact ⟨c, h.1, by simpa using h.2⟩
  · rintro ⟨c, h, hc⟩
    exact ⟨(u, v, c), List.mem_filter.2 ⟨h, by simpa using hc⟩, rfl⟩
theorem mem_lightE {m : Int} {l : List Edge} {u v : Int} : (u, v) ∈ lightE m l ↔ ∃ e ∈ l, e.weight ≤ m ∧ e.a = u ∧ e.b = v := by
  unfold lightE
  rw [List.mem_map]
  constructor
  · rintro ⟨e, h, hq⟩
    rw [List.mem_filter] at h
    simp only [Prod.mk.injEq] at hq
    exact ⟨e, h.1, by simpa using h.2, hq⟩
  · rintro ⟨e, h, hc, rfl, rfl⟩
    exact ⟨e, List.mem_filter.2 ⟨h, by simpa using hc⟩, rfl⟩
theorem mem_arcs2 {l : List Edge} {u v c : Int} : (u, v, c) ∈ arcs2 l ↔ ∃ e ∈ l, e.weight = c ∧ ((e.a = u ∧ e.b = v) ∨ (e.b = u ∧ e.a = v)) := by
  unfold arcs2
  rw [List.mem_flatMap]
  constructor
  · rintro ⟨e, he, h⟩
    simp only [List.mem_cons, Prod.mk.injEq, List.not_mem_nil, or_false] at h
    rcases h with ⟨rfl, rfl, rfl⟩ | ⟨rfl, rfl, rfl⟩
    · exact ⟨e, he, rfl, Or.inl ⟨rfl, rfl⟩⟩
    · exact ⟨e, he, rfl, Or.inr ⟨rfl, rfl⟩⟩
  · rintro ⟨e, he, rfl, h⟩
    refine ⟨e, he, ?_⟩
    rcases h with ⟨rfl, rfl⟩ | ⟨rfl, rfl⟩ <;> simp
/-- by edges of no more than m -/
def By (N : Nat) (l : List Edge) (m : Int) (x y : Nat) : Prop := Conn N (lightE m l) x y
theorem by_arcs {N : Nat} {l : List Edge} {m : Int} {x y : Nat} : Conn N (lightP m (arcs2 l)) x y ↔ By N l m x y := by
  constructor
  · intro h
    refine h.of fun a b ha hb hm => ?_
    obtain ⟨c, hc, hcm⟩ := mem_lightP.1 hm
    obtain ⟨e, he, rfl, h1 | h1⟩ := mem_arcs2.1 hc
    · exact Conn.pair ha hb (mem_lightE.2 ⟨e, he, hcm, h1.1, h1.2⟩)
    · exact (Conn.pair hb ha (mem_lightE.2 ⟨e, he, hcm, h1.2, h1.1⟩)).symm
  · intro h
    refine h.of fun a b ha hb hm => ?_
    obtain ⟨e, he, h1, h2, h3⟩ := mem_lightE.1 hm
    exact Conn.pair ha hb (mem_lightP.2 ⟨e.weight, mem_arcs2.2 ⟨e, he, rfl, Or.inl ⟨h2, h3⟩⟩, h1⟩)
theorem By.up {N : Nat} {l : List Edge} {m m' : Int} {x y : Nat} (h : By N l m x y) (hm : m ≤ m') : By N l m' x y :=
  Conn.mono h fun p hp => by
    obtain ⟨u, v⟩ := p
    obtain ⟨e, he, h1, h2⟩ := mem_lightE.1 hp
    exact mem_lightE.2 ⟨e, he, by omega, h2⟩
structure Nr where
  most : Int
  node : Int
deriving Inhabited, DecidableEq
def lessB (a b : Nr) : Bool := decide (a.most < b.most)
theorem lessB_first : Firsts lessB := by
  constructor
  · intro a b; simp only [lessB, decide_eq_true_eq, decide_eq_false_iff_not]; omega
  · intro a b c; simp only [lessB, decide_eq_false_iff_not]; omega
theorem not_less {a b : Nr} (h : lessB a b = false) : b.most ≤ a.most := by
  simp only [lessB, decide_eq_false_iff_not] at h; omega
/-- arcs between n nodes, none heavier than 1000 -/
def Arcs2 (n : Nat) (G : List (Int × Int × Int)) : Prop := ∀ u v c, (u, v, c) ∈ G → (0 ≤ u ∧ u < n) ∧ (0 ≤ v ∧ v < n) ∧ (0 ≤ c ∧ c ≤ 1000)
def many2 (n : Nat) (out : Nat → Option Int) : Nat := ((List.range n).filter fun v => (out v).isSome).length
def settle2 (out : Nat → Option Int) (x : Nr) : Nat → Option Int := fun v => if v = x.node.toNat then some x.most else out v
theorem many2_le (n : Nat) (out : Nat → Option Int) : many2 n out ≤ n := by
  unfold many2
  have := List.length_filter_le (fun v : Nat => (out v).isSome) (List.range n)
  simpa using this
theorem many2_more {n : Nat} {out : Nat → Option Int} {x : Nr} (h1 : x.node.toNat < n) (hn : out x.node.toNat = none) : many2 n (settle2 out x) = many2 n out + 1 := by
  unfold many2
  refine (filter_one _ _ x.node.toNat h1 ?_ ?_ fun z hz => ?_).symm
  · unfold settle2; rw [if_pos rfl]; rfl
  · rw [hn]; rfl
  · unfold settle2; rw [if_neg hz]
/-- how the search stands -/
structure NI (n : Nat) (G : List (Int × Int × Int)) (a : Nat) (out : Nat → Option Int) (H : List Nr) : Prop where
  soundO : ∀ v p, out v = some p → v < n ∧ Conn n (lightP p G) a v ∧ 0 ≤ p ∧ p ≤ 1000
  soundH : ∀ x ∈ H, (0 ≤ x.node ∧ x.node < n) ∧ Conn n (lightP x.most G) a x.node.toNat ∧ 0 ≤ x.most ∧ x.most ≤ 1000
  mono : ∀ v p, out v = some p → ∀ x ∈ H, p ≤ x.most
  closed : ∀ u p, out u = some p → ∀ (v : Nat) (c : Int), ((u : Int), (v : Int), c) ∈ G → (∃ q, out v = some q ∧ q ≤ max p c) ∨ (⟨max p c, v⟩ : Nr) ∈ H
  from_ : (∃ q, out a = some q ∧ q ≤ 0) ∨ (⟨0, a⟩ : Nr) ∈ H
section
variable {n a : Nat} {G : List (Int × Int × Int)} {out : Nat → Option Int} {H : List Nr}
theorem NI.start (h1 : a < n) : NI n G a (fun _ => none) [⟨0, a⟩] := by
  refine ⟨fun _ _ h => by simp at h, fun x hx => ?_, fun _ _ h => by simp at h, fun _ _ h => by simp at h, Or.inr (by simp)⟩
  simp only [List.mem_singleton] at hx
  subst hx
  exact ⟨⟨by show (0 : Int) ≤ a; omega, by show (a : Int) < n; omega⟩, by show Conn n _ a ((a : Int).toNat); rw [Int.toNat_natCast]; exact Conn.refl _ _ _, by show (0 : Int) ≤ 0; omega, by show (0 : Int) ≤ 1000; omega⟩
theorem NI.perm {H' : List Nr} (h : NI n G a out H) (hp : H.Perm H') : NI n G a out H' :=
  ⟨h.soundO, fun x hx => h.soundH x (hp.mem_iff.2 hx), fun u w ho x hx => h.mono u w ho x (hp.mem_iff.2 hx),
    fun u w ho v c hg => (h.closed u w ho v c hg).imp id fun hm => hp.mem_iff.1 hm, h.from_.imp id fun hm => hp.mem_iff.1 hm⟩
theorem NI.old {x : Nr} {p : Int} (h : NI n G a out (x :: H)) (ho : out x.node.toNat = some p) : NI n G a out H := by
  have hx := h.mono _ p ho x (by simp)
  have hx2 := (h.soundH x (by simp)).1
  refine ⟨h.soundO, fun y hy => h.soundH y (by simp [hy]), fun u w hu y hy => h.mono u w hu y (by simp [hy]), fun u w hu v c hg => ?_, ?_⟩
  · rcases h.closed u w hu v c hg with hc | hc
    · exact Or.inl hc
    · rcases List.mem_cons.1 hc with e1 | e1
      · left
        refine ⟨p, ?_, ?_⟩
        · rw [← e1] at ho; simpa using ho
        · rw [← e1] at hx; exact hx
      · exact Or.inr e1
  · rcases h.from_ with hc | hc
    · exact Or.inl hc
    · rcases List.mem_cons.1 hc with e1 | e1
      · left
        refine ⟨p, ?_, ?_⟩
        · rw [← e1] at ho; simpa using ho
        · rw [← e1] at hx; exact hx
      · exact Or.inr e1
/-- what is pushed behind x -/
def pushes2 (G : List (Int × Int × Int)) (x : Nr) : List Nr := (G.filter fun a => decide (a.1 = x.node)).map fun a => ⟨max x.most a.2.2, a.2.1⟩
theorem mem_pushes2 {x y : Nr} : y ∈ pushes2 G x ↔ ∃ v c, (x.node, v, c) ∈ G ∧ y = ⟨max x.most c, v⟩ := by
  unfold pushes2
  rw [List.mem_map]
  constructor
  · rintro ⟨⟨u, v, c⟩, ha, rfl⟩
    rw [List.mem_filter] at ha
    have := of_decide_eq_true ha.2
    simp only at this
    subst this
    exact ⟨v, c, ha.1, rfl⟩
  · rintro ⟨v, c, hg, rfl⟩
    exact ⟨(x.node, v, c), List.mem_filter.2 ⟨hg, decide_eq_true rfl⟩, rfl⟩
theorem NI.new {x : Nr} (hG : Arcs2 n G) (h : NI n G a out (x :: H)) (hm : ∀ y ∈ H, lessB y x = false) (ho : out x.node.toNat = none) : NI n G a (settle2 out x) (H ++ pushes2 G x) := by
  obtain ⟨hx1, hr, hx2⟩ := h.soundH x (by simp)
  have hold : ∀ u w, settle2 out x u = some w → (u = x.node.toNat ∧ w = x.most) ∨ (u ≠ x.node.toNat ∧ out u = some w) := fun u w hu => by
    unfold settle2 at hu
    split at hu
    · next e1 => injection hu with hu; exact Or.inl ⟨e1, hu.symm⟩
    · next e1 => exact Or.inr ⟨e1, hu⟩
  have hself : settle2 out x x.node.toNat = some x.most := by unfold settle2; rw [if_pos rfl]
  have hkeep : ∀ u w, out u = some w → settle2 out x u = some w := fun u w hu => by
    unfold settle2
    rw [if_neg (fun e1 => by rw [e1, ho] at hu; cases hu)]; exact hu
  refine ⟨fun v w hv => ?_, fun y hy => ?_, fun u w hu y hy => ?_, fun u w hu v c hg => ?_, ?_⟩
  · rcases hold v w hv with ⟨rfl, rfl⟩ | ⟨_, h1⟩
    · exact ⟨by omega, hr, hx2⟩
    · exact h.soundO v w h1
  · rcases List.mem_append.1 hy with hy | hy
    · exact h.soundH y (by simp [hy])
    · obtain ⟨v, c, hg, rfl⟩ := mem_pushes2.1 hy
      obtain ⟨_, g2, g3⟩ := hG _ _ _ hg
      refine ⟨g2, ?_, by show 0 ≤ max x.most c; omega, by show max x.most c ≤ 1000; omega⟩
      show Conn n (lightP (max x.most c) G) a v.toNat
      refine Conn.trans (hr.mono fun p hp => ?_) (Conn.pair (a := x.node.toNat) (by omega) (by omega) (mem_lightP.2 ⟨c, ?_, by omega⟩))
      · obtain ⟨u', v'⟩ := p
        obtain ⟨c', h3, h4⟩ := mem_lightP.1 hp
        exact mem_lightP.2 ⟨c', h3, by omega⟩
      · rw [show (x.node.toNat : Int) = x.node by omega, show (v.toNat : Int) = v by omega]; exact hg
  · have h1 : w ≤ x.most := by
      rcases hold u w hu with ⟨rfl, rfl⟩ | ⟨_, h1⟩
      · exact Int.le_refl _
      · exact h.mono u w h1 x (by simp)
    rcases List.mem_append.1 hy with hy | hy
    · have h2 := not_less (hm y hy)
      omega
    · obtain ⟨v, c, hg, rfl⟩ := mem_pushes2.1 hy
      show w ≤ max x.most c
      omega
  · rcases hold u w hu with ⟨rfl, rfl⟩ | ⟨_, h1⟩
    · rw [show (x.node.toNat : Int) = x.node by omega] at hg
      exact Or.inr (List.mem_append.2 (Or.inr (mem_pushes2.2 ⟨v, c, hg, rfl⟩)))
    · rcases h.closed u w h1 v c hg with ⟨q, a1, a2⟩ | hc
      · exact Or.inl ⟨q, hkeep v q a1, a2⟩
      · rcases List.mem_cons.1 hc with e1 | e1
        · left
          refine ⟨x.most, ?_, ?_⟩
          · rw [← e1] at hself ⊢; simpa using hself
          · rw [← e1]; exact Int.le_refl _
        · exact Or.inr (List.mem_append.2 (Or.inl e1))
  · rcases h.from_ with ⟨q, a1, a2⟩ | hc
    · exact Or.inl ⟨q, hkeep a q a1, a2⟩
    · rcases List.mem_cons.1 hc with e1 | e1
      · left
        refine ⟨x.most, ?_, ?_⟩
        · rw [← e1] at hself ⊢; simpa using hself
        · rw [← e1]; exact Int.le_refl _
      · exact Or.inr (List.mem_append.2 (Or.inl e1))
/-- what is settled by m is closed, while all in the heap is heavier -/
theorem NI.shut (h : NI n G a out H) {m : Int} (hH : ∀ x ∈ H, m < x.most) (hm : 0 ≤ m) {b : Nat} (hc : Conn n (lightP m G) a b) (hsym : ∀ u v c, (u, v, c) ∈ G → (v, u, c) ∈ G) : ∃ p, out b = some p ∧ p ≤ m := by
  have h0 : ∃ p, out a = some p ∧ p ≤ m := by
    rcases h.from_ with ⟨q, a1, a2⟩ | hc
    · exact ⟨q, a1, by omega⟩
    · have : m < 0 := hH _ hc
      omega
  have key : ∀ u v : Nat, ∀ c : Int, ((u : Int), (v : Int), c) ∈ G → c ≤ m → (∃ p, out u = some p ∧ p ≤ m) → ∃ p, out v = some p ∧ p ≤ m := fun u v c hg hc ⟨p, h1, h2⟩ => by
    rcases h.closed u p h1 v c hg with ⟨q, a1, a2⟩ | hc
    · exact ⟨q, a1, by omega⟩
    · have : m < max p c := hH _ hc
      omega
  classical
  have hf := hc (fun v => if (∃ p, out v = some p ∧ p ≤ m) then 1 else 0) fun u v _ _ hm2 => by
    obtain ⟨c, hg, hcm⟩ := mem_lightP.1 hm2
    have e : (∃ p, out u = some p ∧ p ≤ m) ↔ (∃ p, out v = some p ∧ p ≤ m) := ⟨key u v c hg hcm, key v u c (hsym _ _ _ hg) hcm⟩
    simp only [e]
  simp only [h0, if_true] at hf
  split at hf
  · next h1 => exact h1
  · cases hf
/-- what narrow.Least tells -/
def LeastIs (n : Nat) (l : List Edge) (a b : Nat) (x : Int) : Prop := (0 ≤ x ∧ x ≤ 1000) ∧ By n l x a b ∧ ∀ m, 0 ≤ m → By n l m a b → x ≤ m
end
theorem arcs2_sym {l : List Edge} {u v c : Int} (h : (u, v, c) ∈ arcs2 l) : (v, u, c) ∈ arcs2 l := by
  obtain ⟨e, he, h1, h2⟩ := mem_arcs2.1 h
  refine mem_arcs2.2 ⟨e, he, h1, ?_⟩
  rcases h2 with h2 | h2
  · exact Or.inr ⟨h2.2, h2.1⟩
  · exact Or.inl ⟨h2.2, h2.1⟩
section
variable {n a b : Nat} {l : List Edge} {out : Nat → Option Int} {H : List Nr}
theorem NI.found {x : Nr} (h : NI n (arcs2 l) a out (x :: H)) (hm : ∀ y ∈ H, lessB y x = false) (hx : x.node = b) (hb : out b = none) : LeastIs n l a b x.most := by
  obtain ⟨h1, h2, h3⟩ := h.soundH x (by simp)
  rw [hx, Int.toNat_natCast] at h2
  refine ⟨h3, by_arcs.1 h2, fun m h0 hc => ?_⟩
  apply Classical.byContradiction
  intro hlt
  obtain ⟨p, h4, _⟩ := h.shut (m := m) (fun y hy => by
    rcases List.mem_cons.1 hy with rfl | hy
    · omega
    · have := not_less (hm y hy); omega) h0 (by_arcs.2 hc) fun u v c => arcs2_sym
  rw [hb] at h4; cases h4
theorem NI.lost (h : NI n (arcs2 l) a out []) (hb : out b = none) : ∀ m, ¬ By n l m a b := fun m hc => by
  obtain ⟨p, h4, _⟩ := h.shut (m := max m 0) (fun y hy => by simp at hy) (by omega) (by_arcs.2 (hc.up (by omega))) fun u v c => arcs2_sym
  rw [hb] at h4; cases h4
theorem LeastIs.uniq {x y : Int} (h : LeastIs n l a b x) (h' : LeastIs n l a b y) : x = y := by
  have h1 := h.2.2 y h'.1.1 h'.2.1
  have h2 := h'.2.2 x h.1.1 h.2.1
  omega
theorem arcs2_ok (h : ∀ p ∈ l, (0 ≤ p.a ∧ p.a ≤ (n : Int) - 1) ∧ (0 ≤ p.b ∧ p.b ≤ (n : Int) - 1) ∧ (0 ≤ p.weight ∧ p.weight ≤ 1000)) : Arcs2 n (arcs2 l) := by
  intro u v c hm
  obtain ⟨e, he, h1, h2⟩ := mem_arcs2.1 hm
  have := h e he
  rcases h2 with h2 | h2 <;> omega
theorem pushes2_snoc (G : List (Int × Int × Int)) (x : Nr) (y : Int × Int × Int) : pushes2 (G ++ [y]) x = pushes2 G x ++ (if y.1 = x.node then [⟨max x.most y.2.2, y.2.1⟩] else []) := by
  unfold pushes2
  rw [List.filter_append, List.map_append]
  congr 1
  by_cases h : y.1 = x.node
  · rw [if_pos h]; simp [h]
  · rw [if_neg h]; simp [h]
theorem arcs2_take {k : Nat} {e : Edge} (h : l[k]? = some e) : arcs2 (l.take (k + 1)) = arcs2 (l.take k) ++ [(e.a, e.b, e.weight)] ++ [(e.b, e.a, e.weight)] := by
  unfold arcs2
  rw [List.take_add_one, h, List.flatMap_append]
  simp
end
end Go.Proofs.YtpaoiaogcckibaaDoor
