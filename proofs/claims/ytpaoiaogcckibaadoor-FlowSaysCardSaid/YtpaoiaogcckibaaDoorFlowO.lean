/- What flow.Order answers: what is wrong, or Johnson's order. Conditions: lengths are such that slices can have. -/
import Derived.Test.YtpaoiaogcckibaaDoorFlowCP
import Derived.Test.YtpaoiaogcckibaaDoorJohnson
import Derived.Test.YtpaoiaogcckibaaDoorDueA
import Derived.Test.YtpaoiaogcckibaaDoorSortNone
namespace Go.Proofs.YtpaoiaogcckibaaDoor
open Go.RowKit
def pairAt (l : List (Int × Int)) (i : Int) : Int × Int := l.getD i.toNat (0, 0)
def flow1 (l : List (Int × Int)) (i j : Int) : Int := cmpI (pairAt l i).1 (pairAt l j).1
def flow2 (l : List (Int × Int)) (i j : Int) : Int := cmpI (pairAt l j).2 (pairAt l i).2
theorem weak_rev {α : Type} {c : α → α → Int} (h : Weak c) : Weak fun x y => c y x := ⟨fun x y => h.anti y x, fun x y z h1 h2 => h.trans z y x h2 h1⟩

set_option maxHeartbeats 1000000 in
theorem flowLess1 (A : Option Addr) (n c bx : Nat) (l : List (Int × Int)) (x y : Int) (w : World) (hA : Cells w w.heap.size A (pairs l)) (hn : l.length = n) (hbx : w.cell? ⟨bx, 0, none⟩ = some (.slice A n c))
    (hx0 : 0 ≤ x) (hx1 : x < n) (hy0 : 0 ≤ y) (hy1 : y < n) (hm : n ≤ 9223372036854775807) :
    Calls Tryd.prog 86 #[.int .i64 x, .int .i64 y, .pointer (some ⟨bx, 0, none⟩)] w fun e w' => e = .returned (.int .i64 (flow1 l x y)) ∧ ∃ q, w' = w.drewN q := by
  obtain ⟨i, rfl⟩ : ∃ i : Nat, x = i := ⟨x.toNat, by omega⟩
  obtain ⟨j, rfl⟩ : ∃ j : Nat, y = j := ⟨y.toNat, by omega⟩
  obtain ⟨b, off, t1, d1, rfl, _, h1, hc1, _⟩ := pairs_at hA (show i < l.length by omega)
  obtain ⟨b', off', t2, d2, hbb, _, h2, hc2, _⟩ := pairs_at hA (show j < l.length by omega)
  simp only [Option.some.injEq, Addr.mk.injEq, and_true] at hbb
  obtain ⟨rfl, rfl⟩ := hbb
  have HC : Hid (flow1 l i j = cmpI t1 t2) := by
    show _ = _
    simp [flow1, pairAt, h1, h2]
  clear h1 h2 hA hn
  go_enter Tryd.func86, Tryd.ntmps86
  go_wp2
  go_quiet ((go_at_call 84; exact quiet_l (compare_ _ _ _)))
  go_wp2
  go_ret
  exact ⟨ret_int HC.out.symm, nq, rfl⟩

set_option maxHeartbeats 1000000 in
theorem flowLess2 (A : Option Addr) (n c bx : Nat) (l : List (Int × Int)) (x y : Int) (w : World) (hA : Cells w w.heap.size A (pairs l)) (hn : l.length = n) (hbx : w.cell? ⟨bx, 0, none⟩ = some (.slice A n c))
    (hx0 : 0 ≤ x) (hx1 : x < n) (hy0 : 0 ≤ y) (hy1 : y < n) (hm : n ≤ 9223372036854775807) :
    Calls Tryd.prog 87 #[.int .i64 x, .int .i64 y, .pointer (some ⟨bx, 0, none⟩)] w fun e w' => e = .returned (.int .i64 (flow2 l x y)) ∧ ∃ q, w' = w.drewN q := by
  obtain ⟨i, rfl⟩ : ∃ i : Nat, x = i := ⟨x.toNat, by omega⟩
  obtain ⟨j, rfl⟩ : ∃ j : Nat, y = j := ⟨y.toNat, by omega⟩
  obtain ⟨b, off, t1, d1, rfl, _, h1, _, hc1⟩ := pairs_at hA (show i < l.length by omega)
  obtain ⟨b', off', t2, d2, hbb, _, h2, _, hc2⟩ := pairs_at hA (show j < l.length by omega)
  simp only [Option.some.injEq, Addr.mk.injEq, and_true] at hbb
  obtain ⟨rfl, rfl⟩ := hbb
  have HC : Hid (flow2 l i j = cmpI d2 d1) := by
    show _ = _
    simp [flow2, pairAt, h1, h2]
  clear h1 h2 hA hn
  go_enter Tryd.func87, Tryd.ntmps87
  go_wp2
  go_quiet ((go_at_call 84; exact quiet_l (compare_ _ _ _)))
  go_wp2
  go_ret
  exact ⟨ret_int HC.out.symm, nq, rfl⟩

/-- of the first k jobs those that are quicker at first -/
def isHd (l : List (Int × Int)) (i : Int) : Bool := decide ((pairAt l i).1 ≤ (pairAt l i).2)
def hds (l : List (Int × Int)) (k : Nat) : List Int := (upto k).filter (isHd l)
def tls (l : List (Int × Int)) (k : Nat) : List Int := (upto k).filter fun i => !isHd l i
theorem upto_snoc (k : Nat) : upto (k + 1) = upto k ++ [(k : Int)] := by simp [upto, List.range_succ]
theorem hds_snoc (l : List (Int × Int)) (k : Nat) : hds l (k + 1) = hds l k ++ if isHd l k = true then [(k : Int)] else [] := by
  unfold hds; rw [upto_snoc, List.filter_append]; congr 1
  by_cases h : isHd l k = true <;> simp [h]
theorem tls_snoc (l : List (Int × Int)) (k : Nat) : tls l (k + 1) = tls l k ++ if isHd l k = true then [] else [(k : Int)] := by
  unfold tls; rw [upto_snoc, List.filter_append]; congr 1
  by_cases h : isHd l k = true <;> simp [h]
theorem hds_le (l : List (Int × Int)) (k : Nat) : (hds l k).length ≤ k := by
  have := List.length_filter_le (isHd l) (upto k); rw [upto_len] at this; exact this
theorem tls_le (l : List (Int × Int)) (k : Nat) : (tls l k).length ≤ k := by
  have := List.length_filter_le (fun i => !isHd l i) (upto k); rw [upto_len] at this; exact this
theorem parts_perm (l : List (Int × Int)) (k : Nat) : (hds l k ++ tls l k).Perm (upto k) := List.filter_append_perm _ _

theorem own_far {w w' : World} {base e size n : Nat} {v : Value} {xs : List Value} {row : Option Nat} (ho : w.ownsRow base e size v n xs) (hg : w.grownBy w' row) (hne : ∀ g, v.ownBlock = some g → row ≠ some g) : w'.ownsRow base e size v n xs := by
  obtain ⟨h1, h2⟩ := ho
  refine ⟨h1, ?_⟩
  rcases h2 with h2 | ⟨g, cap, cur, rfl, hb, hh, r⟩
  · exact Or.inl h2
  · exact Or.inr ⟨g, cap, cur, rfl, hb, (hg.block g (lt_of_block hh) (fun e => hne g rfl e.symm)).trans hh, r⟩

/-- slices.SortStableFunc over rising numbers, none among them too -/
theorem sortAny {base n cap M f : Nat} {A : Option Addr} {cb : Array Value} {xs : List Int} {c : Int → Int → Int} {w : World}
    (hown : w.ownsRow base 3 1 (.slice A n cap) n (ints xs)) (hn20 : n < 20) (hx : ∀ x ∈ xs, 0 ≤ x ∧ x ≤ M) (hr : xs.Pairwise (· < ·))
    (hc : Weak (fun i j : Fin (M + 1) => c i.val j.val)) (ef : ∀ args w, (callFunc f args).run Tryd.prog w = .ok (.enter f args) w)
    (hcmp : 0 < n → ∀ W : World, w.grownBy W (Value.slice A n cap).ownBlock → ∀ x y : Int, 0 ≤ x → x ≤ M → 0 ≤ y → y ≤ M → Calls Tryd.prog f (#[.int .i64 x, .int .i64 y] ++ cb) W fun e W' => e = .returned (.int .i64 (c x y)) ∧ ∃ q, W' = W.drewN q) :
    Calls Tryd.prog 82 #[.slice A n cap, .func (.func f) #[] cb] w fun e w' => e = .returned (.tuple #[]) ∧
      ∃ ys : List Int, ys.Perm xs ∧ ys.Pairwise (Ahead c id) ∧ w'.ownsRow base 3 1 (.slice A n cap) n (ints ys) ∧ w.grownBy w' (Value.slice A n cap).ownBlock := by
  by_cases h0 : n = 0
  · subst h0
    have hl : xs.length = 0 := by have := hown.1; simpa [ints] using this
    obtain rfl : xs = [] := List.length_eq_zero_iff.1 hl
    exact (sortNone A cap _ w).mono fun e w' ⟨he, hw⟩ => by
      subst hw
      exact ⟨he, [], List.Perm.refl _, List.Pairwise.nil, hown, World.grownBy.refl _ _⟩
  · obtain ⟨g, c1, h1, hb1, hl1⟩ := hown.form (by omega)
    simp only [Value.slice.injEq, true_and] at h1
    obtain ⟨rfl, rfl⟩ := h1
    exact sortStable hown (by omega) hn20 hx hr hc ef (hcmp (by omega))

/-- the order itself: first those that are shorter on the first machine, then the others, each part sorted, equals in their order -/
def JOrd (l : List (Int × Int)) (o : List Int) : Prop := ∃ ys zs, o = ys ++ zs ∧ ys.Perm (hds l l.length) ∧ zs.Perm (tls l l.length) ∧ ys.Pairwise (Ahead (flow1 l) id) ∧ zs.Pairwise (Ahead (flow2 l) id)
theorem flow_order {l : List (Int × Int)} {ys zs : List Int} (hy : ys.Perm (hds l l.length)) (hz : zs.Perm (tls l l.length)) (sy : ys.Pairwise (Ahead (flow1 l) id)) (sz : zs.Pairwise (Ahead (flow2 l) id)) :
    IsOrd l.length (ys ++ zs) ∧ (pat l (ys ++ zs)).Pairwise ahead := by
  refine ⟨isOrd_of_perm ((hy.append hz).trans (parts_perm l l.length)), ?_⟩
  have h1 : ∀ i ∈ ys, (pairAt l i).1 ≤ (pairAt l i).2 := fun i hi => by
    have := (List.mem_filter.1 (hy.mem_iff.1 hi)).2; simpa [isHd] using this
  have h2 : ∀ i ∈ zs, (pairAt l i).2 < (pairAt l i).1 := fun i hi => by
    have := (List.mem_filter.1 (hz.mem_iff.1 hi)).2; simpa [isHd] using this
  have hc : ∀ a b : Int, cmpI a b ≤ 0 → a ≤ b := by
    intro a b; unfold cmpI; repeat' split
    all_goals omega
  unfold pat
  rw [List.pairwise_map, List.pairwise_append]
  refine ⟨?_, ?_, ?_⟩
  · refine sy.imp_of_mem fun {i j} hi hj h => Or.inl ⟨h1 i hi, fun _ => hc _ _ ?_⟩
    unfold Ahead flow1 at h; unfold pairAt at h; omega
  · refine sz.imp_of_mem fun {i j} hi hj h => Or.inr ⟨h2 i hi, h2 j hj, hc _ _ ?_⟩
    unfold Ahead flow2 at h; unfold pairAt at h; omega
  · intro i hi j hj
    refine Or.inl ⟨h1 i hi, fun h => ?_⟩
    have := h2 j hj
    unfold pairAt at this; omega
end Go.Proofs.YtpaoiaogcckibaaDoor
