/- Plain: two neighbouring parts of a row change places; two sorted parts are merged so. Conditions: the comparison is one by a weak order. -/
import Derived.Test.YtejbilcofbjpiaaSortPlain
namespace Go.Proofs.Ytejbilcofbjpiaa
open Go.Sort Go.Proofs
section
variable {α : Type} [Inhabited α]
theorem geq (d : Array α) {x y : Nat} (h : x = y) : d[x]! = d[y]! := by rw [h]
/-- the parts from lo to m and from m to hi change places -/
def IsRot (d e : Array α) (lo m hi : Nat) : Prop := e.size = d.size ∧ ∀ k, e[k]! = if lo ≤ k ∧ k < hi then (if k < lo + (hi - m) then d[k + (m - lo)]! else d[k - (hi - m)]!) else d[k]!
/-- n places from a on are exchanged with those from b on -/
def IsSwapR (d e : Array α) (a b n : Nat) : Prop := e.size = d.size ∧ ∀ k, e[k]! = if a ≤ k ∧ k < a + n then d[k - a + b]! else if b ≤ k ∧ k < b + n then d[k - b + a]! else d[k]!
theorem IsSwapR.zero (d : Array α) (a b : Nat) : IsSwapR d d a b 0 := ⟨rfl, fun k => by rw [if_neg (by omega), if_neg (by omega)]⟩
theorem IsSwapR.step {d e : Array α} {a b i : Nat} (h : IsSwapR d e a b i) (hab : a + (i + 1) ≤ b) (hb : b + i < d.size) : IsSwapR d (swp e (a + i) (b + i)) a b (i + 1) := by
  refine ⟨by rw [size_swp]; exact h.1, fun k => ?_⟩
  have hs := h.1
  rw [swp_get e (a + i) (b + i) k (by omega) (by omega)]
  by_cases e1 : k = b + i
  · rw [if_pos e1, h.2, if_neg (by omega), if_neg (by omega), if_neg (by omega), if_pos (by omega)]
    exact geq d (by omega)
  · rw [if_neg e1]
    by_cases e2 : k = a + i
    · rw [if_pos e2, h.2, if_neg (by omega), if_neg (by omega), if_pos (by omega)]
      exact geq d (by omega)
    · rw [if_neg e2, h.2]
      by_cases e3 : a ≤ k ∧ k < a + i
      · rw [if_pos e3, if_pos (by omega)]
      · rw [if_neg e3, if_neg (show ¬ (a ≤ k ∧ k < a + (i + 1)) by omega)]
        by_cases e4 : b ≤ k ∧ k < b + i
        · rw [if_pos e4, if_pos (by omega)]
        · rw [if_neg e4, if_neg (by omega)]
theorem IsRot.more {d d' e : Array α} {i j m : Nat} (hi : i ≤ m) (hj : j < i) (h1 : IsSwapR d d' (m - i) m j) (h2 : IsRot d' e (m - (i - j)) m (m + j)) : IsRot d e (m - i) m (m + j) := by
  refine ⟨h2.1.trans h1.1, fun k => ?_⟩
  rw [h2.2]
  simp only [h1.2]
  repeat' split
  all_goals first | (refine geq d ?_; omega) | omega
theorem IsRot.less {d d' e : Array α} {i j m : Nat} (hi : i ≤ m) (hj : i < j) (h1 : IsSwapR d d' (m - i) (m + j - i) i) (h2 : IsRot d' e (m - i) m (m + (j - i))) : IsRot d e (m - i) m (m + j) := by
  refine ⟨h2.1.trans h1.1, fun k => ?_⟩
  rw [h2.2]
  simp only [h1.2]
  repeat' split
  all_goals first | (refine geq d ?_; omega) | omega
theorem IsRot.last {d e : Array α} {i m : Nat} (hi : i ≤ m) (h1 : IsSwapR d e (m - i) m i) : IsRot d e (m - i) m (m + i) := by
  refine ⟨h1.1, fun k => ?_⟩
  rw [h1.2]
  repeat' split
  all_goals first | (refine geq d ?_; omega) | omega
theorem IsRot.none (d : Array α) {lo m hi : Nat} (h : lo = m ∨ m = hi) (hl : lo ≤ m) (hh : m ≤ hi) : IsRot d d lo m hi := by
  refine ⟨rfl, fun k => ?_⟩
  repeat' split
  all_goals first | (refine geq d ?_; omega) | omega
/-- the one at a goes on by one -/
theorem IsRot.up {d e : Array α} {a k : Nat} (h : IsRot d e a (a + 1) (k + 1)) (hak : a ≤ k) (hk : k + 1 < d.size) : IsRot d (swp e k (k + 1)) a (a + 1) (k + 1 + 1) := by
  have hs := h.1
  refine ⟨by rw [size_swp]; exact h.1, fun t => ?_⟩
  rw [swp_get e k (k + 1) t (by omega) (by omega)]
  simp only [h.2]
  repeat' split
  all_goals first | (refine geq d ?_; omega) | omega
/-- the one at m goes back by one -/
theorem IsRot.down {d e : Array α} {m k : Nat} (h : IsRot d e (k + 1) m (m + 1)) (hkm : k + 1 ≤ m) (hm : m < d.size) : IsRot d (swp e (k + 1) k) k m (m + 1) := by
  have hs := h.1
  refine ⟨by rw [size_swp]; exact h.1, fun t => ?_⟩
  rw [swp_get e (k + 1) k t (by omega) (by omega)]
  simp only [h.2]
  repeat' split
  all_goals first | (refine geq d ?_; omega) | omega

variable {c : α → α → Int} {v : α → Int}
theorem Sorted.part {d : Array α} {a b a' b' : Nat} (h : Sorted c v d a b) (ha : a ≤ a') (hb : b' ≤ b) : Sorted c v d a' b' := fun p q h1 h2 h3 => h p q (by omega) h2 (by omega)
theorem Sorted.le (hw : Weak c) {d : Array α} {a b p q : Nat} {z : α} (h : Sorted c v d a b) (h1 : a ≤ p) (h2 : p ≤ q) (h3 : q < b) (hz : Ahead c v d[q]! z) : Ahead c v d[p]! z := by
  rcases Nat.lt_or_ge p q with h4 | h4
  · exact (h p q h1 h4 h3).trans hw hz
  · rw [show p = q by omega]; exact hz
theorem Sorted.ge (hw : Weak c) {d : Array α} {a b p q : Nat} {z : α} (h : Sorted c v d a b) (h1 : a ≤ p) (h2 : p ≤ q) (h3 : q < b) (hz : Ahead c v z d[p]!) : Ahead c v z d[q]! := by
  rcases Nat.lt_or_ge p q with h4 | h4
  · exact hz.trans hw (h p q h1 h4 h3)
  · rw [← show p = q by omega]; exact hz
/-- of two sorted parts, one turned into the other's place -/
theorem rot_sorted {d e : Array α} {a s m t b : Nat} (hr : IsRot d e s m t) (h1 : a ≤ s) (h2 : s ≤ m) (h3 : m ≤ t) (h4 : t ≤ b) (hs1 : Sorted c v d a m) (hs2 : Sorted c v d m b)
    (hA : ∀ x y, a ≤ x → x < s → m ≤ y → y < t → Ahead c v d[x]! d[y]!) (hB : ∀ x y, s ≤ x → x < m → m ≤ y → y < t → Ahead c v d[y]! d[x]!) (hC : ∀ x y, a ≤ x → x < m → t ≤ y → y < b → Ahead c v d[x]! d[y]!) : Sorted c v e a b := by
  intro p q hp hpq hq
  rw [hr.2 p, hr.2 q]
  rcases Nat.lt_or_ge p s with hp1 | hp1 <;> rcases Nat.lt_or_ge q s with hq1 | hq1 <;> repeat' split
  all_goals first
    | omega
    | (refine hs1 _ _ ?_ ?_ ?_ <;> omega)
    | (refine hs2 _ _ ?_ ?_ ?_ <;> omega)
    | (refine hA _ _ ?_ ?_ ?_ ?_ <;> omega)
    | (refine hB _ _ ?_ ?_ ?_ ?_ <;> omega)
    | (refine hC _ _ ?_ ?_ ?_ ?_ <;> omega)
/-- how the search for the place to turn at ends -/
structure Cutting (c : α → α → Int) (v : α → Int) (d : Array α) (a m b s t : Nat) : Prop where
  a_s : a ≤ s
  sm : s ≤ m
  mt : m ≤ t
  tb : t ≤ b
  sum : s + t = (a + b) / 2 + m
  left : ∀ x y, a ≤ x → x < s → t ≤ y → y < b → Ahead c v d[x]! d[y]!
  right : ∀ x y, s ≤ x → x < m → m ≤ y → y < t → Ahead c v d[y]! d[x]!
theorem Cutting.of (hw : Weak c) {d : Array α} {a m b lo r s n : Nat} (ham : a < m) (hmb : m < b) (hs1 : Sorted c v d a m) (hs2 : Sorted c v d m b) (hn : n = (a + b) / 2 + m)
    (hlo : lo ≤ s) (hr : s ≤ r) (he : (m > (a + b) / 2 ∧ lo = n - b ∧ r = (a + b) / 2) ∨ (m ≤ (a + b) / 2 ∧ lo = a ∧ r = m))
    (hL : lo < s → Ahead c v d[s - 1]! d[n - s]!) (hR : s < r → Ahead c v d[n - 1 - s]! d[s]!) : Cutting c v d a m b s (n - s) := by
  refine ⟨by omega, by omega, by omega, by omega, by omega, fun x y hx hxs hy hyb => ?_, fun x y hx hxm hy hyt => ?_⟩
  · have h := hL (by omega)
    exact hs1.le hw (q := s - 1) hx (by omega) (by omega) (hs2.ge hw (p := n - s) (by omega) hy hyb h)
  · have h := hR (by omega)
    exact hs2.le hw (q := n - 1 - s) hy (by omega) (by omega) (hs1.ge hw (p := s) (by omega) hx hxm h)
section
variable {d e : Array α} {a m b s t : Nat}
theorem Cutting.parts (k : Cutting c v d a m b s t) (hr : IsRot d e s m t) (hs1 : Sorted c v d a m) (hs2 : Sorted c v d m b) (hv : ∀ x y, a ≤ x → x < m → m ≤ y → y < b → v d[x]! < v d[y]!) :
    Sorted c v e a s ∧ Sorted c v e s ((a + b) / 2) ∧ Sorted c v e ((a + b) / 2) t ∧ Sorted c v e t b ∧ (∀ x y, a ≤ x → x < s → s ≤ y → y < (a + b) / 2 → v e[x]! < v e[y]!) ∧ (∀ x y, (a + b) / 2 ≤ x → x < t → t ≤ y → y < b → v e[x]! < v e[y]!) := by
  obtain ⟨k1, k2, k3, k4, k5, _, _⟩ := k
  refine ⟨fun p q hp hpq hq => ?_, fun p q hp hpq hq => ?_, fun p q hp hpq hq => ?_, fun p q hp hpq hq => ?_, fun x y hx hxs hy hym => ?_, fun x y hx hxs hy hym => ?_⟩ <;> simp only [hr.2] <;> (repeat' split)
  all_goals first
    | omega
    | (refine hs1 _ _ ?_ ?_ ?_ <;> omega)
    | (refine hs2 _ _ ?_ ?_ ?_ <;> omega)
    | (refine hv _ _ ?_ ?_ ?_ ?_ <;> omega)
theorem Cutting.cross (_hw : Weak c) (k : Cutting c v d a m b s t) (hr : IsRot d e s m t) (hs1 : Sorted c v d a m) (hs2 : Sorted c v d m b) :
    ∀ x y, a ≤ x → x < (a + b) / 2 → (a + b) / 2 ≤ y → y < b → Ahead c v e[x]! e[y]! := by
  obtain ⟨k1, k2, k3, k4, k5, k6, k7⟩ := k
  intro x y hx hxm hy hyb
  rw [hr.2 x, hr.2 y]
  repeat' split
  all_goals first
    | omega
    | (refine hs1 _ _ ?_ ?_ ?_ <;> omega)
    | (refine hs2 _ _ ?_ ?_ ?_ <;> omega)
    | (refine k6 _ _ ?_ ?_ ?_ ?_ <;> omega)
    | (refine k7 _ _ ?_ ?_ ?_ ?_ <;> omega)
theorem merged {e f g : Array α} {a q b : Nat} (haq : a ≤ q) (hqb : q ≤ b) (hb : b ≤ e.size) (hx : ∀ x y, a ≤ x → x < q → q ≤ y → y < b → Ahead c v e[x]! e[y]!) (h1 : PermIn a q e f) (h2 : PermIn q b f g)
    (s1 : Sorted c v f a q) (s2 : Sorted c v g q b) : Sorted c v g a b ∧ PermIn a b e g := by
  have z1 := h1.1
  have z2 := h2.1
  refine ⟨fun i j hi hij hj => ?_, permIn_trans _ _ _ _ _ (permIn_mono _ _ a q a b (Nat.le_refl _) hqb (by omega) h1) (permIn_mono _ _ q b a b haq (Nat.le_refl _) (by omega) h2)⟩
  rcases Nat.lt_or_ge j q with h | h
  · rw [h2.2.1 i (Or.inl (by omega)), h2.2.1 j (Or.inl h)]; exact s1 i j hi hij h
  · rcases Nat.lt_or_ge i q with h' | h'
    · rw [h2.2.1 i (Or.inl h')]
      refine permIn_all f g q b (fun y => Ahead c v f[i]! y) (by omega) h2 (fun k hk1 hk2 => ?_) j h hj
      rw [h1.2.1 k (Or.inr hk1)]
      exact permIn_all e f a q (fun x => Ahead c v x e[k]!) (by omega) h1 (fun l hl1 hl2 => hx l k hl1 hl2 hk1 hk2) i hi h'
    · exact s2 i j h' hij hj
end
end
end Go.Proofs.Ytejbilcofbjpiaa
