/- Plain: a tree that grows by the lightest edge out of it: its edges are in the forest; when all has grown, all of the forest is there. Conditions: the graph is one that may be. -/
import Derived.Test.YtpaoiaogcckibaaDoorBoruvkaP
import Derived.Test.YtpaoiaogcckibaaDoorHeapPlain
namespace Go.Proofs.YtpaoiaogcckibaaDoor
open Go.RowKit
/-- what comes first of two edges -/
def ltB (l : List Edge) (i j : Int) : Bool := decide (wOf l i < wOf l j ∨ wOf l i = wOf l j ∧ i < j)
theorem ltB_first (l : List Edge) : Firsts (ltB l) := by
  constructor
  · intro a b; simp only [ltB, decide_eq_true_eq, decide_eq_false_iff_not]; omega
  · intro a b c; simp only [ltB, decide_eq_false_iff_not]; omega
/-- how a tree stands: V: what is had; V0: what was had when it began, at s -/
structure PI (N : Nat) (l : List Edge) (V0 V : Nat → Bool) (s : Nat) (ib : Nat → Bool) (H : List Int) : Prop where
  sub : ∀ x, V0 x = true → V x = true
  shut : ∀ j, j < l.length → V0 (eAt l j).a.toNat = V0 (eAt l j).b.toNat
  old : ∀ j, j < l.length → V0 (eAt l j).a.toNat = true → Conn N ((insOf l.length ib).map (eOf l)) (eAt l j).a.toNat (eAt l j).b.toNat
  tree : ∀ x, x < N → V x = true → V0 x = false → Conn N ((insOf l.length ib).map (eOf l)) s x
  out : ∀ j : Nat, j < l.length → V (eAt l j).a.toNat ≠ V (eAt l j).b.toNat → (j : Int) ∈ H
  heap : ∀ i ∈ H, (0 ≤ i ∧ i < l.length) ∧ (V (eAt l i).a.toNat = true ∨ V (eAt l i).b.toNat = true)
  nodup : H.Nodup
  ins : ∀ i : Nat, i < l.length → ib i = true → inF N l i = true
/-- between two trees -/
structure PD (N : Nat) (l : List Edge) (V : Nat → Bool) (k : Nat) (ib : Nat → Bool) : Prop where
  shut : ∀ j, j < l.length → V (eAt l j).a.toNat = V (eAt l j).b.toNat
  old : ∀ j, j < l.length → V (eAt l j).a.toNat = true → Conn N ((insOf l.length ib).map (eOf l)) (eAt l j).a.toNat (eAt l j).b.toNat
  low : ∀ x, x < k → V x = true
  ins : ∀ i : Nat, i < l.length → ib i = true → inF N l i = true
section
variable {N s k : Nat} {l : List Edge} {V0 V : Nat → Bool} {ib : Nat → Bool} {H : List Int}
theorem PD.start : PD N l (fun _ => false) 0 (fun _ => false) := ⟨fun _ _ => rfl, fun _ _ h => (by cases h), fun _ h => (by omega), fun _ _ h => (by cases h)⟩
theorem PI.perm {H' : List Int} (h : PI N l V0 V s ib H) (hp : H.Perm H') : PI N l V0 V s ib H' :=
  ⟨h.sub, h.shut, h.old, h.tree, fun j hj hv => hp.mem_iff.1 (h.out j hj hv), fun i hi => h.heap i (hp.mem_iff.2 hi), hp.nodup_iff.1 h.nodup, h.ins⟩
theorem PI.len (h : PI N l V0 V s ib H) : H.length ≤ l.length := by
  have := len_le_of_sub H (upto l.length) h.nodup fun i hi => (mem_upto _ _).2 (h.heap i hi).1
  rwa [upto_len] at this
/-- the tree is grown -/
theorem PI.done (h : PI N l V0 V s ib []) (hg : graphErr N l = 0) (hl : ∀ x, x < k → V x = true) : PD N l V k ib := by
  have hs : ∀ j, j < l.length → V (eAt l j).a.toNat = V (eAt l j).b.toNat := fun j hj => Classical.byContradiction fun hne => by
    have := h.out j hj hne
    simp at this
  refine ⟨hs, fun j hj ha => ?_, hl, h.ins⟩
  obtain ⟨e1, e2, _⟩ := edge_ends hg hj
  cases h0 : V0 (eAt l j).a.toNat with
  | true => exact h.old j hj h0
  | false =>
    have hb := hs j hj
    rw [ha] at hb
    have hb0 := h.shut j hj
    rw [h0] at hb0
    exact (h.tree _ e1 ha h0).symm.trans (h.tree _ e2 hb.symm hb0.symm)
theorem PD.more (h : PD N l V k ib) (hv : V k = true) : PD N l V (k + 1) ib := ⟨h.shut, h.old, fun x hx => by
  by_cases e : x = k
  · subst e; exact hv
  · exact h.low x (by omega), h.ins⟩
/-- no tree to grow: nothing is in the heap -/
theorem PD.none (h : PD N l V k ib) : PI N l V V s ib [] :=
  ⟨fun _ h => h, h.shut, h.old, fun x _ h1 h2 => (by rw [h1] at h2; cases h2), fun j hj hne => absurd (h.shut j hj) hne, fun i hi => by simp at hi, List.nodup_nil, h.ins⟩
/-- the edges that grow pushes: of a, to what is not had -/
def grown (l : List Edge) (V : Nat → Bool) (a : Int) (i : Int) : Bool := decide (((eAt l i).a = a ∧ V (eAt l i).b.toNat = false) ∨ ((eAt l i).b = a ∧ V (eAt l i).a.toNat = false))
/-- one more node -/
def had1 (V : Nat → Bool) (a : Nat) : Nat → Bool := fun x => if x = a then true else V x
theorem PI.grow {a : Nat} (hg : graphErr N l = 0) (h0 : V a = false) (hV0 : V0 a = false)
    (sub : ∀ x, V0 x = true → V x = true) (shut : ∀ j, j < l.length → V0 (eAt l j).a.toNat = V0 (eAt l j).b.toNat)
    (old : ∀ j, j < l.length → V0 (eAt l j).a.toNat = true → Conn N ((insOf l.length ib).map (eOf l)) (eAt l j).a.toNat (eAt l j).b.toNat)
    (tree : ∀ x, x < N → V x = true → V0 x = false → Conn N ((insOf l.length ib).map (eOf l)) s x)
    (out : ∀ j : Nat, j < l.length → V (eAt l j).a.toNat ≠ V (eAt l j).b.toNat → (eAt l j).a.toNat ≠ a → (eAt l j).b.toNat ≠ a → (j : Int) ∈ H)
    (heap : ∀ i ∈ H, (0 ≤ i ∧ i < l.length) ∧ (V (eAt l i).a.toNat = true ∨ V (eAt l i).b.toNat = true)) (nodup : H.Nodup)
    (ins : ∀ i : Nat, i < l.length → ib i = true → inF N l i = true) (hc : Conn N ((insOf l.length ib).map (eOf l)) s a) :
    PI N l V0 (had1 V a) s ib (H ++ (upto l.length).filter (grown l (had1 V a) a)) := by
  have hup : ∀ x, V x = true → had1 V a x = true := fun x hx => by unfold had1; split <;> simp [hx]
  refine ⟨fun x hx => hup x (sub x hx), shut, old, fun x hx h1 h2 => ?_, fun j hj hne => ?_, fun i hi => ?_, ?_, ins⟩
  · unfold had1 at h1
    split at h1
    · next e => subst e; exact hc
    · exact tree x hx h1 h2
  · obtain ⟨e1, e2, e3, e4⟩ := edge_ends hg hj
    by_cases ha : (eAt l j).a.toNat = a
    · refine List.mem_append.2 (Or.inr (List.mem_filter.2 ⟨(mem_upto _ _).2 (by omega), ?_⟩))
      have : had1 V a (eAt l j).a.toNat = true := by unfold had1; rw [if_pos ha]
      rw [this] at hne
      unfold grown
      refine decide_eq_true (Or.inl ⟨by omega, ?_⟩)
      cases hb : had1 V a (eAt l j).b.toNat with
      | false => rfl
      | true => rw [hb] at hne; exact absurd rfl hne
    · by_cases hb : (eAt l j).b.toNat = a
      · refine List.mem_append.2 (Or.inr (List.mem_filter.2 ⟨(mem_upto _ _).2 (by omega), ?_⟩))
        have : had1 V a (eAt l j).b.toNat = true := by unfold had1; rw [if_pos hb]
        rw [this] at hne
        unfold grown
        refine decide_eq_true (Or.inr ⟨by omega, ?_⟩)
        cases hb : had1 V a (eAt l j).a.toNat with
        | false => rfl
        | true => rw [hb] at hne; exact absurd rfl hne
      · refine List.mem_append.2 (Or.inl (out j hj ?_ ha hb))
        unfold had1 at hne
        rw [if_neg ha, if_neg hb] at hne
        exact hne
  · rcases List.mem_append.1 hi with hi | hi
    · have := heap i hi
      exact ⟨this.1, this.2.imp (hup _) (hup _)⟩
    · obtain ⟨q1, q2⟩ := List.mem_filter.1 hi
      have q1 := (mem_upto _ _).1 q1
      refine ⟨q1, ?_⟩
      unfold grown at q2
      rcases of_decide_eq_true q2 with q2 | q2
      · left; unfold had1; rw [if_pos (by rw [q2.1]; omega)]
      · right; unfold had1; rw [if_pos (by rw [q2.1]; omega)]
  · rw [List.nodup_append]
    refine ⟨nodup, ?_, fun x hx y hy e => ?_⟩
    · exact (upto_nodup l.length).filter _
    · subst e
      have h1 := (heap x hx).2
      obtain ⟨q1, q2⟩ := List.mem_filter.1 hy
      unfold grown at q2
      have down : ∀ z, had1 V a z = false → V z = false := fun z hz => by
        unfold had1 at hz
        split at hz
        · cases hz
        · exact hz
      rcases of_decide_eq_true q2 with ⟨q3, q4⟩ | ⟨q3, q4⟩
      · rw [q3, Int.toNat_natCast, h0, down _ q4] at h1
        rcases h1 with h1 | h1 <;> cases h1
      · rw [q3, Int.toNat_natCast, h0, down _ q4] at h1
        rcases h1 with h1 | h1 <;> cases h1
/-- a tree begins -/
theorem PD.begin {a : Nat} (h : PD N l V k ib) (hg : graphErr N l = 0) (h0 : V a = false) : PI N l V (had1 V a) a ib ((upto l.length).filter (grown l (had1 V a) a)) := by
  have := PI.grow (V0 := V) (V := V) (s := a) (ib := ib) (H := []) hg h0 h0 (fun _ h => h) h.shut h.old (fun x _ h1 h2 => by rw [h1] at h2; cases h2)
    (fun j hj hne _ _ => absurd (h.shut j hj) hne) (fun i hi => by simp at hi) List.nodup_nil h.ins (Conn.refl _ _ _)
  rwa [List.nil_append] at this
/-- an edge of which both ends are had falls away -/
theorem PI.fall {i : Int} (h : PI N l V0 V s ib (i :: H)) (ha : V (eAt l i).a.toNat = true) (hb : V (eAt l i).b.toNat = true) : PI N l V0 V s ib H := by
  refine ⟨h.sub, h.shut, h.old, h.tree, fun j hj hne => ?_, fun x hx => h.heap x (by simp [hx]), (List.nodup_cons.1 h.nodup).2, h.ins⟩
  rcases List.mem_cons.1 (h.out j hj hne) with e | e
  · rw [e, ha, hb] at hne; exact absurd rfl hne
  · exact e
/-- the lightest edge out of the tree: it is in the forest, and its other end grows on -/
theorem PI.take {q a b : Nat} (h : PI N l V0 V s ib ((q : Int) :: H)) (hg : graphErr N l = 0) (hm : ∀ y ∈ H, ltB l y q = false) (hab : ((eAt l q).a = a ∧ (eAt l q).b = b) ∨ ((eAt l q).b = a ∧ (eAt l q).a = b)) (h0 : V a = false) :
    PI N l V0 (had1 V a) s (putB ib q) (H ++ (upto l.length).filter (grown l (had1 V a) a)) := by
  obtain ⟨hq, hv⟩ := h.heap (q : Int) (by simp)
  have hqn : q < l.length := by omega
  obtain ⟨e1, e2, e3, e4⟩ := edge_ends hg hqn
  have hb1 : V b = true := by
    rcases hab with ⟨p1, p2⟩ | ⟨p1, p2⟩
    · rw [p1, p2] at hv; simpa [h0] using hv
    · rw [p1, p2] at hv; simpa [h0] using hv
  have hF : inF N l (q : Int) = true := by
    have hm2 : (q : Int) ∈ kord l := (kord_ord l).full _ hq.1 hq.2
    obtain ⟨p, hp, hpe⟩ := List.getElem_of_mem hm2
    have hp2 : (kord l)[p]? = some (q : Int) := by rw [List.getElem?_eq_getElem hp, hpe]
    refine (inF_forest N l).cut (kord_ends hg) V hp2 ?_ fun j hj => ?_
    · show V (eAt l q).a.toNat ≠ V (eAt l q).b.toNat
      rcases hab with ⟨p1, p2⟩ | ⟨p1, p2⟩ <;> rw [p1, p2, Int.toNat_natCast, Int.toNat_natCast, h0, hb1] <;> simp
    · obtain ⟨i, hi, hie⟩ := List.mem_take_iff_getElem.1 hj
      have hlt := kord_sorted l
      rw [List.pairwise_iff_getElem] at hlt
      have h4 := hlt i p (by omega) hp (by omega)
      rw [hie, hpe] at h4
      have hj2 := (kord_ord l).2.1 j (List.mem_of_mem_take hj)
      obtain ⟨jn, rfl⟩ : ∃ jn : Nat, j = jn := ⟨j.toNat, by omega⟩
      show V (eAt l jn).a.toNat = V (eAt l jn).b.toNat
      apply Classical.byContradiction
      intro hne
      unfold Lt2 at h4
      rcases List.mem_cons.1 (h.out jn (by omega) hne) with e | e
      · rw [e] at h4; omega
      · have h5 := hm _ e
        simp only [ltB, decide_eq_false_iff_not] at h5
        omega
  have hmono : ∀ x y, Conn N ((insOf l.length ib).map (eOf l)) x y → Conn N ((insOf l.length (putB ib q)).map (eOf l)) x y := fun x y hc => hc.mono fun p hp => by
    obtain ⟨i, hi, rfl⟩ := List.mem_map.1 hp
    exact List.mem_map.2 ⟨i, (mem_put hqn).2 (Or.inl hi), rfl⟩
  have hV0 : V0 a = false := by
    cases h1 : V0 a with
    | false => rfl
    | true => rw [h.sub a h1] at h0; cases h0
  have hb0 : V0 b = false := by
    have h1 := h.shut q hqn
    rcases hab with ⟨p1, p2⟩ | ⟨p1, p2⟩
    · rw [p1, p2, Int.toNat_natCast, Int.toNat_natCast, hV0] at h1; exact h1.symm
    · rw [p1, p2, Int.toNat_natCast, Int.toNat_natCast, hV0] at h1; exact h1
  have hbN : b < N := by rcases hab with ⟨p1, p2⟩ | ⟨p1, p2⟩ <;> omega
  have haN : a < N := by rcases hab with ⟨p1, p2⟩ | ⟨p1, p2⟩ <;> omega
  have hlink : Conn N ((insOf l.length (putB ib q)).map (eOf l)) b a := by
    have hmq : eOf l (q : Int) ∈ (insOf l.length (putB ib q)).map (eOf l) := List.mem_map.2 ⟨(q : Int), (mem_put hqn).2 (Or.inr rfl), rfl⟩
    unfold eOf at hmq
    rcases hab with ⟨p1, p2⟩ | ⟨p1, p2⟩
    · rw [p1, p2] at hmq; exact (Conn.pair haN hbN hmq).symm
    · rw [p1, p2] at hmq; exact Conn.pair hbN haN hmq
  refine PI.grow hg h0 hV0 h.sub h.shut (fun j hj ha => hmono _ _ (h.old j hj ha)) (fun x hx h1 h2 => hmono _ _ (h.tree x hx h1 h2)) (fun j hj hne n1 n2 => ?_) (fun i hi => h.heap i (by simp [hi])) (List.nodup_cons.1 h.nodup).2
    (fun i hi hib => ?_) ((hmono _ _ (h.tree b hbN hb1 hb0)).trans hlink)
  · rcases List.mem_cons.1 (h.out j hj hne) with e | e
    · have e : j = q := by omega
      subst e
      rcases hab with ⟨p1, p2⟩ | ⟨p1, p2⟩
      · exact absurd (by rw [p1, Int.toNat_natCast]) n1
      · exact absurd (by rw [p1, Int.toNat_natCast]) n2
    · exact e
  · unfold putB at hib
    split at hib
    · next e => subst e; exact hF
    · exact h.ins i hi hib
/-- when all is had the forest is there -/
theorem PD.all (h : PD N l V N ib) (hg : graphErr N l = 0) : insOf l.length ib = forest N l := by
  have hE : Ends N (eOf l) (insOf l.length ib) := fun i hi => kord_ends hg i ((kord_ord l).full i (mem_insOf.1 hi).1.1 (mem_insOf.1 hi).1.2)
  obtain ⟨m, ⟨R, hR, _⟩, _⟩ := pcs_ex hE
  refine ins_forest hg h.ins hR fun j hj => ?_
  obtain ⟨e1, e2, _⟩ := edge_ends hg hj
  exact (hR.conn e1 e2).2 (h.old j hj (h.low _ e1))
end
end Go.Proofs.YtpaoiaogcckibaaDoor
