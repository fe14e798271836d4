/- Plain: the least room in which one meets nobody is the first that is free. Conditions: the spans are ones that may be. -/
import Derived.Test.YtpaoiaogcckibaaDoorSlotsRoomsP
import Derived.Test.YtpaoiaogcckibaaDoorSlotsBy
import Derived.Test.YtpaoiaogcckibaaDoorSelP
import Derived.Test.YtpaoiaogcckibaaDoorMeet
namespace Go.Proofs.YtpaoiaogcckibaaDoor
open Go.RowKit
def begC (l : List Sp) : Int → Int → Int := byC (fun x => x.1) l
theorem weak_beg (l : List Sp) : Weak (begC l) := weak_key fun i => (spAt l i).1
theorem begC_lt {l : List Sp} {i j : Int} : begC l i j < 0 ↔ (spAt l i).1 < (spAt l j).1 := by
  show cmpI (spAt l i).1 (spAt l j).1 < 0 ↔ _
  unfold cmpI; split <;> (try split) <;> omega
/-- so far: the spans of us have the program's rooms; the others have none -/
structure RoomsI (l : List Sp) (us os o fr : List Int) : Prop where
  rms : RoomsTo l us o fr
  len : os.length = l.length
  at_ : ∀ i : Nat, i < l.length → os[i]! = if (i : Int) ∈ us then o[i]! else -1
theorem RoomsI.start {l : List Sp} {os : List Int} (hl : os.length = l.length) (h : ∀ i : Nat, i < l.length → os[i]! = -1) : RoomsI l [] os (List.replicate l.length 0) [] :=
  ⟨⟨by simp, fun i hi => by simp at hi, fun i j hi => by simp at hi, fun r hr => by simp at hr, (deepUp_le l 1001).1, rfl⟩, hl, fun i hi => by rw [h i hi]; simp⟩
theorem RoomsI.neg {l : List Sp} {us os o fr : List Int} (h : RoomsI l us os o fr) {i : Nat} (hi : i < l.length) : os[i]! < 0 ↔ (i : Int) ∉ us := by
  rw [h.at_ i hi]
  by_cases hm : (i : Int) ∈ us
  · rw [if_pos hm]
    obtain ⟨_, r, hr, _⟩ := h.rms.inr i hm
    constructor
    · intro h; omega
    · intro h; exact absurd hm h
  · rw [if_neg hm]; simp [hm]
/-- does one of the first i have this room, and meet q? -/
def takenB (l : List Sp) (os : List Int) (q r i : Nat) : Bool := (List.range i).any fun j => os[j]! == (r : Int) && meetB (spAt l j) (spAt l q)
theorem takenB_next (l : List Sp) (os : List Int) (q r i : Nat) : takenB l os q r (i + 1) = (takenB l os q r i || (os[i]! == (r : Int) && meetB (spAt l i) (spAt l q))) := by
  unfold takenB; rw [List.range_succ, List.any_append]; simp
theorem takenB_true {l : List Sp} {os : List Int} {q r i : Nat} (h : takenB l os q r i = true) : ∃ j : Nat, j < i ∧ os[j]! = r ∧ meetP (spAt l j) (spAt l q) := by
  unfold takenB at h
  obtain ⟨j, hj, h⟩ := List.any_eq_true.1 h
  rw [Bool.and_eq_true] at h
  exact ⟨j, List.mem_range.1 hj, by simpa using h.1, by have h2 := h.2; unfold meetB at h2; simpa [meetP] using h2⟩
theorem takenB_of {l : List Sp} {os : List Int} {q r i j : Nat} (hj : j < i) (h1 : os[j]! = r) (h2 : meetP (spAt l j) (spAt l q)) : takenB l os q r i = true := by
  unfold takenB
  exact List.any_eq_true.2 ⟨j, List.mem_range.2 hj, by rw [Bool.and_eq_true]; exact ⟨by simpa using h1, meetB_true h2⟩⟩
section
variable {l : List Sp} {us os o fr : List Int} {q : Nat}
theorem RoomsI.taken (h : RoomsI l us os o fr) {t : Nat} (ht : takenB l os q t l.length = true) : t < fr.length ∧ (spAt l q).1 < fr[t]! := by
  obtain ⟨j, hj, h1, h2⟩ := takenB_true ht
  rw [h.at_ j hj] at h1
  by_cases hm : (j : Int) ∈ us
  · rw [if_pos hm] at h1
    obtain ⟨_, r, hr, hrf, hrt⟩ := h.rms.inr j hm
    have : r = t := by omega
    subst this
    unfold meetP at h2
    exact ⟨hrf, by omega⟩
  · rw [if_neg hm] at h1; omega
theorem RoomsI.open_ (h : RoomsI l us os o fr) (hord : ∀ j : Nat, (j : Int) ∈ us → (spAt l j).1 ≤ (spAt l q).1) (hw : (spAt l q).1 < (spAt l q).2) {t : Nat} (htl : t < fr.length) (ht : takenB l os q t l.length = false) : fr[t]! ≤ (spAt l q).1 := by
  obtain ⟨p, hp, h1, h2⟩ := h.rms.last t htl
  have hpl := (h.rms.inr p hp).1
  have h3 := hord p hp
  apply Classical.byContradiction
  intro h4
  have : takenB l os q t l.length = true := takenB_of hpl (by rw [h.at_ p hpl, if_pos hp]; exact h1) (by unfold meetP; omega)
  rw [this] at ht; cases ht
theorem RoomsI.fits (h : RoomsI l us os o fr) (hord : ∀ j : Nat, (j : Int) ∈ us → (spAt l j).1 ≤ (spAt l q).1) (hw : (spAt l q).1 < (spAt l q).2) {r : Nat} (h1 : ∀ t : Nat, t < r → takenB l os q t l.length = true) (h2 : takenB l os q r l.length = false) : fit (spAt l q).1 fr = r := by
  by_cases hr : r < fr.length
  · exact fit_old _ _ _ hr (h.open_ hord hw hr h2) fun t ht => (h.taken (h1 t ht)).2
  · have hrl : ¬ fr.length < r := fun hlt => by have := (h.taken (h1 fr.length hlt)).1; omega
    have hre : r = fr.length := by omega
    subst hre
    exact fit_new _ _ fun t ht => (h.taken (h1 t ht)).2
theorem RoomsI.le (h : RoomsI l us os o fr) {r : Nat} (h1 : ∀ t : Nat, t < r → takenB l os q t l.length = true) : r ≤ fr.length := by
  apply Classical.byContradiction
  intro hn
  have := (h.taken (h1 fr.length (by omega))).1
  omega
theorem RoomsI.next (h : RoomsI l us os o fr) (hord : ∀ j : Nat, (j : Int) ∈ us → (spAt l j).1 ≤ (spAt l q).1) (hw : (0 ≤ (spAt l q).1 ∧ (spAt l q).1 < (spAt l q).2) ∧ (spAt l q).2 ≤ 1000) (hq : q < l.length) (hqn : (q : Int) ∉ us) {r : Nat} (h1 : ∀ t : Nat, t < r → takenB l os q t l.length = true) (h2 : takenB l os q r l.length = false) :
    ∃ o' fr', RoomsI l (us ++ [(q : Int)]) (os.set q r) o' fr' := by
  have hlen := h.rms.len
  have hat : ∀ (i : Nat), i < l.length → (os.set q (r : Int))[i]! = if (i : Int) ∈ us ++ [(q : Int)] then (o.set q (r : Int))[i]! else -1 := fun i hi => by
    rw [gset os q i r (by have := h.len; omega), gset o q i r (by omega)]
    by_cases e : q = i
    · subst e; simp
    · rw [if_neg e, if_neg e, h.at_ i hi]
      have : ((i : Int) ∈ us ++ [(q : Int)]) ↔ (i : Int) ∈ us := by simp; omega
      simp only [this]
  by_cases hr : r < fr.length
  · have := h.rms.old (r := r) hq hqn hr (h.open_ hord hw.1.2 hr h2) (fun t ht => (h.taken (h1 t ht)).2) hw.1.2
    exact ⟨_, _, this, by rw [List.length_set]; exact h.len, hat⟩
  · have hre : r = fr.length := by have := h.le h1; omega
    subst hre
    have := h.rms.new hq hqn (fun t ht => (h.taken (h1 t ht)).2) hord ⟨hw.1.1, hw.1.2, hw.2⟩
    exact ⟨_, _, this, by rw [List.length_set]; exact h.len, hat⟩
theorem RoomsI.done (h : RoomsI l us os o fr) (hu : IsOrd l.length us) : os = o := by
  apply List.ext_getElem
  · rw [h.len, h.rms.len]
  · intro i h1 h2
    have hi : i < l.length := by have := h.len; omega
    have := h.at_ i hi
    rw [if_pos (hu.full _ (by omega) (by omega)), getElem!_pos os i h1, getElem!_pos o i h2] at this
    exact this
end
theorem SelI.before {c : Int → Int → Int} {n : Nat} {us : List Int} (h : SelI c n us) {q : Nat} (hq : q < n) (hn : (q : Int) ∉ us) : ∀ j : Nat, (j : Int) ∈ us → c j q ≤ 0 := fun j hj => by
  have := h.rest j hj q hq hn
  unfold Ahead at this; omega
end Go.Proofs.YtpaoiaogcckibaaDoor
