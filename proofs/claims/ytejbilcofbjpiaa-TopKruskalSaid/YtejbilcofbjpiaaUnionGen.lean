/- What joining does to who is with whom, and union.Groups' Join as a whole. Conditions: at most 60 things. -/
import Derived.Test.YtejbilcofbjpiaaUnionKeep
namespace Go.Proofs.Ytejbilcofbjpiaa
open Go.RowKit

/-- two things that a pair names are alike -/
def Resp (n : Nat) (E : List (Int × Int)) (f : Nat → Nat) : Prop := ∀ a b : Nat, a < n → b < n → ((a : Int), (b : Int)) ∈ E → f a = f b
/-- R has just those together that the pairs join -/
structure Gen (n : Nat) (E : List (Int × Int)) (R : Nat → Nat) : Prop where
  resp : Resp n E R
  least : ∀ f, Resp n E f → ∀ z, z < n → f z = f (R z)
theorem Gen.start (n : Nat) : Gen n [] id := ⟨fun a b _ _ h => by simp at h, fun _ _ _ _ => rfl⟩
theorem Gen.skip {n : Nat} {E : List (Int × Int)} {R : Nat → Nat} {a b : Int} (h : Gen n E R) (hn : ¬ (0 ≤ a ∧ a < n ∧ 0 ≤ b ∧ b < n)) : Gen n (E ++ [(a, b)]) R := by
  refine ⟨fun x y hx hy hm => ?_, fun f hf => h.least f fun x y hx hy hm => hf x y hx hy (by simp [hm])⟩
  rcases List.mem_append.1 hm with hm | hm
  · exact h.resp x y hx hy hm
  · simp at hm; exfalso; apply hn; omega
theorem Gen.same {n : Nat} {E : List (Int × Int)} {R : Nat → Nat} {a b : Nat} (h : Gen n E R) (hs : R a = R b) : Gen n (E ++ [((a : Int), (b : Int))]) R := by
  refine ⟨fun x y hx hy hm => ?_, fun f hf => h.least f fun x y hx hy hm => hf x y hx hy (by simp [hm])⟩
  rcases List.mem_append.1 hm with hm | hm
  · exact h.resp x y hx hy hm
  · simp at hm
    obtain ⟨e1, e2⟩ := hm
    have : x = a := by omega
    have : y = b := by omega
    subst x y; exact hs
theorem Gen.link {n : Nat} {E : List (Int × Int)} {R : Nat → Nat} {a b : Nat} (h : Gen n E R) (ha : a < n) (hb : b < n) (_hl : ∀ x, x < n → R x < n) (x y : Nat) (hxy : (x = R a ∧ y = R b) ∨ (x = R b ∧ y = R a)) :
    Gen n (E ++ [((a : Int), (b : Int))]) (link R x y) := by
  refine ⟨fun u v hu hv hm => ?_, fun f hf z hz => ?_⟩
  · rcases List.mem_append.1 hm with hm | hm
    · have := h.resp u v hu hv hm
      unfold Go.Proofs.Ytejbilcofbjpiaa.link; rw [this]
    · simp at hm
      have : u = a := by omega
      have : v = b := by omega
      subst u v
      unfold Go.Proofs.Ytejbilcofbjpiaa.link
      rcases hxy with ⟨rfl, rfl⟩ | ⟨rfl, rfl⟩
      · rw [if_pos rfl]; split <;> rfl
      · rw [if_pos rfl]; split <;> rfl
  · have hf0 : Resp n E f := fun u v hu hv hm => hf u v hu hv (by simp [hm])
    have h0 := h.least f hf0
    have hab : f a = f b := hf a b ha hb (by simp)
    have e1 := h0 z hz
    have e2 := h0 a ha
    have e3 := h0 b hb
    unfold Go.Proofs.Ytejbilcofbjpiaa.link
    split
    · next e =>
      rw [e] at e1
      rcases hxy with ⟨rfl, rfl⟩ | ⟨rfl, rfl⟩
      · rw [e1, ← e3, ← hab, e2]
      · rw [e1, ← e2, hab, e3]
    · exact e1
/-- the same pairs, in whatever order and either way round, have the same together -/
theorem Gen.kernel {n : Nat} {E E' : List (Int × Int)} {R R' : Nat → Nat} (h : Gen n E R) (h' : Gen n E' R') (h1 : Resp n E R') (h2 : Resp n E' R) : ∀ x y, x < n → y < n → (R x = R y ↔ R' x = R' y) := by
  intro x y hx hy
  constructor
  · intro e
    rw [h.least R' h1 x hx, h.least R' h1 y hy, e]
  · intro e
    rw [h'.least R h2 x hx, h'.least R h2 y hy, e]

/-- what Join leaves, whatever it is asked -/
def JoinOK (w : World) (base p n : Nat) (U : Option Addr) (cu : Nat) (S : Option Addr) (cs : Nat) (R : Nat → Nat) (E : List (Int × Int)) (a b : Int) (e : Ending) (w' : World) : Prop :=
  ∃ (t : Bool) (R' : Nat → Nat), e = .returned (.tuple #[.bool t, errV (if inG n a b = true then 0 else 1)]) ∧ UG w' base p n U cu S cs R' ∧ Gen n (E ++ [(a, b)]) R' ∧ Keeps (ugs p U S) w w' ∧
    roots n R' + (if t = true then 1 else 0) = roots n R ∧ (t = true ↔ (inG n a b = true ∧ R a.toNat ≠ R b.toNat))
theorem joinG {w : World} {base p n cu cs : Nat} {U S : Option Addr} {R : Nat → Nat} {E : List (Int × Int)} (a b : Int) (h : UG w base p n U cu S cs R) (hg : Gen n E R) :
    Calls Try.prog 8 #[.pointer (some ⟨p, 0, none⟩), .int .i64 a, .int .i64 b] w (JoinOK w base p n U cu S cs R E a b) := by
  by_cases hin : 0 ≤ a ∧ a < n ∧ 0 ≤ b ∧ b < n
  · obtain ⟨x, rfl⟩ : ∃ x : Nat, a = x := ⟨a.toNat, by omega⟩
    obtain ⟨y, rfl⟩ : ∃ y : Nat, b = y := ⟨b.toNat, by omega⟩
    have hx : x < n := by omega
    have hy : y < n := by omega
    have hi := inG_true hin
    by_cases hs : R x = R y
    · refine (join_same h hx hy hs).mono ?_
      rintro e w' ⟨rfl, h1, h2⟩
      exact ⟨false, R, by rw [hi]; rfl, h1, hg.same hs, h2, by simp, by simp [hs]⟩
    · refine (join_new h hx hy hs).mono ?_
      rintro e w' ⟨rfl, h1, h2⟩
      have ex := h.idem hx
      have ey := h.idem hy
      rcases h1 with h1 | h1
      · exact ⟨true, _, by rw [hi]; rfl, h1, hg.link hx hy (fun z hz => h.lt hz) _ _ (Or.inl ⟨rfl, rfl⟩), h2, by simpa using roots_link (h.lt hy) ex ey hs, by simp [hi, hs]⟩
      · exact ⟨true, _, by rw [hi]; rfl, h1, hg.link hx hy (fun z hz => h.lt hz) _ _ (Or.inr ⟨rfl, rfl⟩), h2, by simpa using roots_link (h.lt hx) ey ex (fun e => hs e.symm), by simp [hi, hs]⟩
  · have hi := inG_false hin
    refine (join_bad a b h hi).mono ?_
    rintro e w' ⟨rfl, rfl⟩
    exact ⟨false, R, by rw [hi]; rfl, h, hg.skip hin, Keeps.refl _ _, by simp, by simp [hi]⟩
end Go.Proofs.Ytejbilcofbjpiaa
