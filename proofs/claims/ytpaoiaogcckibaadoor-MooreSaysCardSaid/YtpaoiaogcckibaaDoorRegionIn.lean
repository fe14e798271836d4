/- Inside a round of a range over a function: a region that draws its order and calls no Go function is walked by the plain laws; what reads alone is taken first. Conditions: none. -/
import Derived.Test.YtpaoiaogcckibaaDoorRange
import Derived.Deep.RegionHeld
namespace Go.Proofs.YtpaoiaogcckibaaDoor
open Go.RowKit
def noDefer (ops : Array Oper) : Bool := ops.all fun o => match o.op with | .defer _ => false | _ => true
theorem noDefer_of {ops : Array Oper} (h : noDefer ops = true) {i : Nat} {o : Oper} (ho : ops[i]? = some o) : ∀ c, o.op ≠ .defer c := fun c e => by
  unfold noDefer at h
  rw [Array.all_eq_true] at h
  obtain ⟨hi, rfl⟩ := Array.getElem?_eq_some_iff.1 ho
  have := h i hi
  rw [e] at this
  cases this
/-- an operation that ends at once means the same inside a round -/
theorem oper_in {P : Program} {o : Oper} {a : Act} {w : World} {K : Act → World → Prop} {Q : Exit → Act → World → Prop} {l n : Nat} (hd : ∀ c, o.op ≠ .defer c)
    (h : o.wp P a w K Q) : o.wpIn (Fence.wide.inRound l) n P a w K Q := by
  refine ⟨fun _ _ => trivial, ?_⟩
  show o.uponIn _ n P a K Q ((o.semAt (some l) a.eval).run P w)
  rw [Oper.semAt_some l _ _ hd]
  unfold Oper.wp at h
  generalize (execOp a.eval o).run P w = r at *
  cases r with
  | ok x w' =>
    cases x with
    | value v => exact h
    | skip => exact h
    | defer d => exact h
    | enter f args => exact ⟨fun hx => (by simp [Fence.wide, Fence.inRound] at hx), CallsIn.inRound l ((callsIn_wide (n := n - 1)).2 h)⟩
    | row row args =>
      refine ⟨fun hx => (by simp [Fence.wide, Fence.inRound] at hx), fun c cs _ => ?_⟩
      obtain ⟨v, w2, r, s⟩ := h c cs
      exact ⟨v, w2, r, stepsIn_wide.2 s⟩
    | _ => exact h.elim
  | halt x w' =>
    cases x with
    | panic v => exact h
    | _ => exact h.elim
theorem any_in {P : Program} {md : Region.Mode} {ops : Array Oper} {Q : Exit → Act → World → Prop} {l n : Nat} (hd : noDefer ops = true) (hx : ¬ LetsOut Q) :
    ∀ (fuel : Nat) (listed : Array Bool) (a : Act) (w : World), wpAny P md ops Q fuel listed a w → wpAnyIn (Fence.wide.inRound l) n P md ops Q fuel listed a w
  | 0, _, _, _, h => h
  | fuel + 1, listed, a, w, h => ⟨h.1, fun i hi => by
      have h2 := h.2 i hi
      unfold wpOp at h2
      unfold wpOpIn
      cases ho : ops[i]? with
      | none =>
        simp only [ho] at h2 ⊢
        exact any_in hd hx fuel _ a w h2
      | some o =>
        simp only [ho] at h2 ⊢
        split
        · next hw =>
          rw [if_pos hw] at h2
          exact oper_in (noDefer_of hd ho) (Oper.wp_mono (fun a w h3 => any_in hd hx fuel _ a w h3) (h2.resolve_right fun h4 => hx h4.2))
        · next hw =>
          rw [if_neg hw] at h2
          exact ⟨fun _ _ => trivial, any_in hd hx fuel _ _ w h2⟩⟩
/-- the way in: a region inside a round, by the plain laws, S held -/
theorem region_in {P : Program} {ops : Array Oper} {Q : Exit → Act → World → Prop} {l n id : Nat} {a : Act} {w : World} (S : World → Prop) (hm : P.follows .mixedOrders = true) (hd : noDefer ops = true) (hx : ¬ LetsOut Q)
    (hS : S w.drew) (h : S w.drew → wpAnyH P .any ops Q S ops.size (Array.replicate ops.size false) a w.drew) : (Code.region id ops true).wpIn (Fence.wide.inRound l) n P Q a w :=
  wpIn_region_any hm (any_in hd hx _ _ _ _ (wpAny_of_held _ _ _ _ (h hS)))
section
variable {P : Program} {md : Region.Mode} {L rest : List Oper} {Q : Exit → Act → World → Prop} {S : World → Prop} {fuel i : Nat} {listed : Array Bool} {a : Act} {w : World} {o : Oper} {v : Value}
/-- one that reads alone is taken first -/
theorem takeL (i : Nat) (hi : L.drop i = o :: rest) (hs : Region.noSelect L.toArray = true) (hf : Region.free md L.toArray listed i = true) (hr : (Region.ready md L.toArray listed).contains i = true)
    (hQ : ∀ c a w, Q (.panic c) (a.put o.dst v) w → Q (.panic c) a w) (hw : Region.wanted o (yielded L.toArray a.tmps) = true) (hv : ∀ w, S w → (execOp a.eval o).run P w = .ok (.value v) w) (hS : S w)
    (h : wpAnyH P md L.toArray Q S fuel (listed.setIfInBounds i true) (a.put o.dst v) w) : wpAnyH P md L.toArray Q S (fuel + 1) listed a w :=
  wpAnyH_take (i := i) (oi := o) (v := v) (by
    rw [List.getElem?_toArray]
    have := congrArg List.head? hi
    rw [List.head?_drop] at this
    exact this) hs hf hr hQ (Or.inl ⟨hw, hv⟩) hS h
/-- the one that comes up next -/
theorem stepL (i : Nat) (hi : L.drop i = o :: rest) (hr : Region.ready md L.toArray listed = [i]) (hw : Region.wanted o (yielded L.toArray a.tmps) = true)
    (h : ∀ K : Act → World → Prop, (∀ a w, S w → (S w → wpAnyH P md L.toArray Q S fuel (listed.setIfInBounds i true) a w) → K a w) → o.wp P a w K Q) : wpAnyH P md L.toArray Q S (fuel + 1) listed a w :=
  wpAnyH_ready (rs := [i]) hr (by simp) (AllReadyH.cons (o := o) (by
    rw [List.getElem?_toArray]
    have := congrArg List.head? hi
    rw [List.head?_drop] at this
    exact this) (fun K hK => by rw [if_pos hw]; exact h K hK.out) AllReadyH.nil)
/-- one of two comes up next -/
theorem step2L {o2 : Oper} {rest2 : List Oper} (i j : Nat) (hi : L.drop i = o :: rest) (hj : L.drop j = o2 :: rest2) (hr : Region.ready md L.toArray listed = [i, j]) (hw : Region.wanted o (yielded L.toArray a.tmps) = true) (hw2 : Region.wanted o2 (yielded L.toArray a.tmps) = true)
    (h : ∀ K : Act → World → Prop, (∀ a w, S w → (S w → wpAnyH P md L.toArray Q S fuel (listed.setIfInBounds i true) a w) → K a w) → o.wp P a w K Q)
    (h2 : ∀ K : Act → World → Prop, (∀ a w, S w → (S w → wpAnyH P md L.toArray Q S fuel (listed.setIfInBounds j true) a w) → K a w) → o2.wp P a w K Q) : wpAnyH P md L.toArray Q S (fuel + 1) listed a w :=
  wpAnyH_ready (rs := [i, j]) hr (by simp) (AllReadyH.cons (o := o) (by
    rw [List.getElem?_toArray]
    have := congrArg List.head? hi
    rw [List.head?_drop] at this
    exact this) (fun K hK => by rw [if_pos hw]; exact h K hK.out) (AllReadyH.cons (o := o2) (by
    rw [List.getElem?_toArray]
    have := congrArg List.head? hj
    rw [List.head?_drop] at this
    exact this) (fun K hK => by rw [if_pos hw2]; exact h2 K hK.out) AllReadyH.nil))
end
end Go.Proofs.YtpaoiaogcckibaaDoor
