/- The closed fact of the laws on forests. Conditions: none. -/
import Derived.Test.YtfbnecnhalnmeaaTied
import Derived.Test.YtfbnecnhalnmeaaTriangle
import Derived.Test.YtfbnecnhalnmeaaInts
namespace Go.Proofs.Ytfbnecnhalnmeaa
open Go.RowKit
theorem risen_is {xs ys : List Int} (hp : ys.Perm xs) (hs : ys.Pairwise (· ≤ ·)) : risen xs = ys :=
  List.Perm.eq_of_pairwise (le := fun a b : Int => a ≤ b) (fun a b _ _ h1 h2 => by omega) (risen_sorted xs) hs ((risen_perm xs).trans hp.symm)
theorem tri_kord : kord triE = [1, 2, 0] := (order_is (l := triE) (ys := [1, 2, 0]) ⟨rfl, by decide, by decide⟩ (by
  simp [Ahead, kC, cmpI, wOf, eAt, triE])).symm
theorem tri_forest : forest 3 triE = [1, 2] := by
  have hF := inF_forest 3 triE
  rw [tri_kord] at hF
  have h0 : inF 3 triE 1 = true := (hF 0 1 rfl).2 fun h => by
    have := h id (fun a b _ _ hm => by simp at hm)
    simp [eOf, eAt, triE] at this
  have h1 : inF 3 triE 2 = true := (hF 1 2 rfl).2 fun h => by
    have := h (fun x => if x = 0 then 0 else 1) (fun a b _ _ hm => by
      simp [eOf, eAt, triE] at hm
      have e1 : a = 1 := by omega
      have e2 : b = 2 := by omega
      subst e1 e2; rfl)
    simp [eOf, eAt, triE] at this
  have h2 : ¬ inF 3 triE 0 = true := fun h => (hF 2 0 rfl).1 h (by
    have c1 : Conn 3 (([1, 2] : List Int).map (eOf triE)) 1 2 := Conn.pair (by omega) (by omega) (by simp [eOf, eAt, triE])
    have c2 : Conn 3 (([1, 2] : List Int).map (eOf triE)) 2 0 := Conn.pair (by omega) (by omega) (by simp [eOf, eAt, triE])
    have := (c1.trans c2).symm
    simpa [Tied, eOf, eAt, triE] using this)
  unfold forest
  rw [tri_kord]
  have e : ([1, 2, 0] : List Int).filter (inF 3 triE) = [1, 2] := by
    simp [h0, h1, h2]
  rw [e]
  exact risen_is (List.Perm.refl _) (by simp)
set_option maxHeartbeats 1000000 in
theorem spanFact (w : World) : Calls Try.prog 12 #[] w fun e w' => e = .returned (.bool true) ∧ Below w.heap.size w w' := by
  go_enter Try.func12, Try.ntmps12
  go_wp2_with fail
  refine (triangle_ w).mono ?_
  rintro e w1 ⟨rfl, hc1, hb1⟩
  have c2 := Lib.hid (kruskal_ok 3 (some ⟨w.heap.size + 1, 0, none⟩) 3 3 triE w1 hc1 rfl tri_ok)
  clear hc1
  go_wp2_with fail
  refine c2.out.mono ?_
  rintro e w2 ⟨V, c, rfl, hown, hb2⟩
  rw [tri_forest] at hown ⊢
  simp only [List.length_cons, List.length_nil, Nat.zero_add, Nat.reduceAdd] at hown ⊢
  have hcx := hown.own (by omega)
  have hn3 := (Row.new w2 3 #[.int .i64 1, .int .i64 2]).cells
  have hb3 : Below w2.heap.size w2 (w2.alloc (.cells #[.int .i64 1, .int .i64 2] 3)) := (Below.refl _ _).alloc (Nat.le_refl _) _
  have c6 := Lib.hid (ints_same V (some ⟨w2.heap.size, 0, none⟩) 2 c 2 2 [1, 2] [1, 2] _ (hcx.step hb3) rfl (by omega) hn3 rfl)
  have hE : Hid (eqB [1, 2] [1, 2] = true) := eqB_true rfl
  have HB : Hid (Below w.heap.size w (w2.alloc (.cells #[.int .i64 1, .int .i64 2] 3))) := hb1.trans ((hb2.mono hb1.size).trans (hb3.mono (by have := hb1.size; have := hb2.size; omega)))
  clear hown hcx hn3 hb3 c2 hb1 hb2
  go_wp2_with fail
  refine c6.out.mono ?_
  rintro e w7 ⟨rfl, q, rfl⟩
  rw [hE.out]
  go_wp2
  go_ret
  exact ⟨rfl, below_drewN HB.out q⟩
/-- as many edges as nodes, less the pieces -/
theorem forest_count {N : Nat} {l : List Edge} {R : Nat → Nat} (hg : graphErr N l = 0) (h : Gen N ((upto l.length).map (eOf l)) R) (hl : ∀ x, x < N → R x < N) (hi : ∀ x, x < N → R (R x) = R x) : (forest N l).length + roots N R = N := by
  obtain ⟨_, m, hm, hc⟩ := (inF_forest N l).whole (kord_ends hg)
  have h1 : Pcs N ((upto l.length).map (eOf l)) (roots N R) := ⟨R, h, hl, hi, rfl⟩
  have h2 : Pcs N ((upto l.length).map (eOf l)) m := hm.perm fun p => by
    simp only [List.mem_map]
    constructor
    · rintro ⟨i, hi, rfl⟩; exact ⟨i, (kord_ord l).perm.mem_iff.1 hi, rfl⟩
    · rintro ⟨i, hi, rfl⟩; exact ⟨i, (kord_ord l).perm.mem_iff.2 hi, rfl⟩
  have h3 := h1.uniq h2 fun _ _ _ _ => Iff.rfl
  unfold forest
  rw [risen_len]; omega
end Go.Proofs.Ytfbnecnhalnmeaa
