/- Plain: who takes again and again the first that ends, of those that meet none that is taken, picks as the program does. Conditions: the spans are ones that may be. -/
import Derived.Test.YtpaoiaogcckibaaDoorSlotsBy
import Derived.Test.YtpaoiaogcckibaaDoorSelP
import Derived.Test.YtpaoiaogcckibaaDoorBRow
import Derived.Test.YtpaoiaogcckibaaDoorMeet
namespace Go.Proofs.YtpaoiaogcckibaaDoor
open Go.RowKit
/-- the places that are gone -/
def gl (n : Nat) (f : Nat → Bool) : List Int := (upto n).filter fun i => f i.toNat
theorem mem_gl {n : Nat} {f : Nat → Bool} {i : Nat} (hi : i < n) : (i : Int) ∈ gl n f ↔ f i = true := by
  unfold gl
  rw [List.mem_filter, mem_upto]
  constructor
  · rintro ⟨_, h⟩; simpa using h
  · intro h; exact ⟨by omega, by simpa using h⟩
/-- so far: these are picked; left are those of the rest of the order that begin no sooner than the last one ends -/
def PickJ (l : List Sp) (ys xs : List Int) (f : Nat → Bool) : Prop :=
  ∃ (zs : List Int) (free : Int), (∃ us, ys = us ++ zs) ∧ xs ++ pickL l zs free = pickL l ys 0 ∧ (∀ i : Nat, i < l.length → (f i = false ↔ (i : Int) ∈ zs ∧ free ≤ (spAt l i).1)) ∧ xs.length + zs.length ≤ ys.length
def endC (l : List Sp) : Int → Int → Int := byC (fun x => x.2) l
theorem weak_end (l : List Sp) : Weak (endC l) := weak_key fun i => (spAt l i).2
theorem endC_lt {l : List Sp} {i j : Int} : endC l i j < 0 ↔ (spAt l i).2 < (spAt l j).2 := by
  show cmpI (spAt l i).2 (spAt l j).2 < 0 ↔ _
  unfold cmpI; split <;> (try split) <;> omega
theorem PickJ.start {l : List Sp} {ys : List Int} (ho : IsOrd l.length ys) (hs : ∀ x ∈ l, (0 ≤ x.1 ∧ x.1 < x.2) ∧ x.2 ≤ 1000) : PickJ l ys [] (fun _ => false) := by
  refine ⟨ys, 0, ⟨[], rfl⟩, rfl, fun i hi => ?_, by simp⟩
  simp only [true_iff]
  refine ⟨ho.full _ (by omega) (by omega), ?_⟩
  have : spAt l (i : Int) ∈ l := by unfold spAt; rw [List.getD_eq_getElem?_getD, List.getElem?_eq_getElem (by omega), Option.getD_some]; exact List.getElem_mem _
  exact (hs _ this).1.1
theorem pickL_none {l : List Sp} {free : Int} : ∀ zs : List Int, (∀ i ∈ zs, ¬ free ≤ (spAt l i).1) → pickL l zs free = [] := by
  intro zs
  induction zs with
  | nil => intro _; rfl
  | cons i zs ih => intro h; simp only [pickL]; rw [if_neg (h i (by simp))]; exact ih fun j hj => h j (by simp [hj])
theorem pickL_skip {l : List Sp} {free : Int} (r : List Int) : ∀ zs : List Int, (∀ i ∈ zs, ¬ free ≤ (spAt l i).1) → pickL l (zs ++ r) free = pickL l r free := by
  intro zs
  induction zs with
  | nil => intro _; rfl
  | cons i zs ih => intro h; simp only [List.cons_append, pickL]; rw [if_neg (h i (by simp))]; exact ih fun j hj => h j (by simp [hj])
theorem PickJ.stop {l : List Sp} {ys xs : List Int} {f : Nat → Bool} {v : Int} (h : PickJ l ys xs f) (ho : IsOrd l.length ys) (hb : SelB (endC l) (gl l.length f) l.length v) (hv : v < 0) : xs = pickL l ys 0 := by
  obtain ⟨zs, free, ⟨us, hz⟩, hx, hf, _⟩ := h
  rcases hb with ⟨_, hb⟩ | ⟨q, rfl, _⟩
  · rw [← hx, pickL_none zs fun i hi hle => ?_, List.append_nil]
    have hr := ho.2.1 i (by rw [hz]; simp [hi])
    obtain ⟨k, rfl⟩ : ∃ k : Nat, i = k := ⟨i.toNat, by omega⟩
    have h1 := (mem_gl (by omega)).1 (hb k (by omega))
    rw [(hf k (by omega)).2 ⟨hi, hle⟩] at h1; cases h1
  · omega
/-- those that meet one are gone, too -/
def markJ (l : List Sp) (f : Nat → Bool) (q i : Nat) : Nat → Bool := fun j => f j || (decide (j < i) && meetB (spAt l j) (spAt l q))
theorem markJ_start (l : List Sp) (f : Nat → Bool) (q : Nat) : markJ l f q 0 = f := by funext j; simp [markJ]
theorem markJ_on {l : List Sp} {f : Nat → Bool} {q i : Nat} (h : meetB (spAt l i) (spAt l q) = true) : markJ l f q (i + 1) = fun j => if j = i then true else markJ l f q i j := by
  funext j
  unfold markJ
  by_cases e : j = i
  · subst e; simp [h]
  · rw [if_neg e]; congr 2; rw [decide_eq_decide]; omega
theorem markJ_off {l : List Sp} {f : Nat → Bool} {q i : Nat} (h : meetB (spAt l i) (spAt l q) = false) : markJ l f q (i + 1) = markJ l f q i := by
  funext j
  unfold markJ
  by_cases e : j = i
  · subst e; simp [h]
  · congr 2; rw [decide_eq_decide]; omega
theorem PickJ.next {l : List Sp} {ys xs : List Int} {f : Nat → Bool} {q : Nat} (h : PickJ l ys xs f) (ho : IsOrd l.length ys) (hs : ys.Pairwise (Ahead (endC l) id)) (hsp : ∀ x ∈ l, (0 ≤ x.1 ∧ x.1 < x.2) ∧ x.2 ≤ 1000) (hq : q < l.length)
    (hb : SelB (endC l) (gl l.length f) l.length (q : Int)) : PickJ l ys (xs ++ [(q : Int)]) (markJ l f q l.length) := by
  obtain ⟨zs, free, ⟨us0, hz⟩, hx, hf, hl⟩ := h
  have hin : ∀ i : Nat, i < l.length → spAt l (i : Int) ∈ l := fun i hi => by unfold spAt; rw [List.getD_eq_getElem?_getD, List.getElem?_eq_getElem (by omega), Option.getD_some]; exact List.getElem_mem _
  rcases hb with ⟨h0, _⟩ | ⟨q', h0, _, hn, hb⟩
  · omega
  · obtain rfl : q = q' := by omega
    have hfq : f q = false := by
      cases e : f q with
      | false => rfl
      | true => exact absurd ((mem_gl hq).2 e) hn
    obtain ⟨hqz, hqf⟩ := (hf q hq).1 hfq
    obtain ⟨us, bs, rfl⟩ := List.append_of_mem hqz
    have hzn : (us ++ (q : Int) :: bs).Nodup := by have := ho.2.2; rw [hz] at this; exact (List.nodup_append.1 this).2.1
    have hzs : (us ++ (q : Int) :: bs).Pairwise (Ahead (endC l) id) := by rw [hz] at hs; exact (List.pairwise_append.1 hs).2.1
    have hza := List.pairwise_append.1 hzs
    have hqb := List.pairwise_cons.1 hza.2.1
    have hna := List.nodup_append.1 hzn
    have hrng : ∀ i ∈ us ++ (q : Int) :: bs, 0 ≤ i ∧ i < l.length := fun i hi => ho.2.1 i (by rw [hz]; exact List.mem_append.2 (Or.inr hi))
    have hskip : ∀ a ∈ us, ¬ free ≤ (spAt l a).1 := fun a ha hle => by
      have hr := hrng a (List.mem_append.2 (Or.inl ha))
      obtain ⟨k, rfl⟩ : ∃ k : Nat, a = k := ⟨a.toNat, by omega⟩
      have h1 := (hf k (by omega)).2 ⟨List.mem_append.2 (Or.inl ha), hle⟩
      have h2 : (k : Int) ∉ gl l.length f := fun hm => by rw [(mem_gl (by omega)).1 hm] at h1; cases h1
      rcases hb k (by omega) h2 with rfl | h3
      · exact hna.2.2 _ ha _ (List.mem_cons_self) rfl
      · exact (hza.2.2 _ ha _ (List.mem_cons_self)).asymm (weak_end l) h3
    have hwq := (hsp _ (hin q hq)).1
    refine ⟨bs, (spAt l q).2, ⟨us0 ++ us ++ [(q : Int)], by rw [hz]; simp⟩, ?_, fun i hi => ?_, ?_⟩
    · rw [← hx, pickL_skip _ us hskip]
      simp only [pickL]
      rw [if_pos hqf]; simp
    · have hwi := (hsp _ (hin i hi)).1
      have e1 : markJ l f q l.length i = false ↔ f i = false ∧ meetB (spAt l i) (spAt l q) = false := by
        unfold markJ; rw [decide_eq_true hi]; simp
      have e2 : meetB (spAt l i) (spAt l q) = false ↔ ¬ ((spAt l i).1 < (spAt l q).2 ∧ (spAt l q).1 < (spAt l i).2) := by unfold meetB; exact decide_eq_false_iff_not
      rw [e1, e2, hf i hi]
      constructor
      · rintro ⟨⟨hm, hle⟩, hnm⟩
        rcases List.mem_append.1 hm with hm | hm
        · exact absurd hle (hskip _ hm)
        · rcases List.mem_cons.1 hm with e | hm
          · have : i = q := by omega
            subst this; omega
          · have h4 := hqb.1 _ hm
            have h5 : ¬ endC l i q < 0 := fun h6 => (Ahead.asymm (weak_end l) h4 (Or.inl h6))
            rw [endC_lt] at h5
            exact ⟨hm, by omega⟩
      · rintro ⟨hm, hle⟩
        exact ⟨⟨List.mem_append.2 (Or.inr (List.mem_cons_of_mem _ hm)), by omega⟩, by omega⟩
    · simp only [List.length_append, List.length_cons, List.length_nil] at hl ⊢; omega
theorem PickJ.le {l : List Sp} {ys xs : List Int} {f : Nat → Bool} (h : PickJ l ys xs f) (ho : IsOrd l.length ys) : xs.length ≤ l.length := by
  obtain ⟨zs, free, _, _, _, hl⟩ := h
  have := ho.1; omega
end Go.Proofs.YtpaoiaogcckibaaDoor
