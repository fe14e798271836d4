/- What the closure of smith.Order answers: jobs compared by Time for Weight. Conditions: times and weights are such as jobs may have. -/
import Derived.Test.YtpaoiaogcckibaaDoorDueA
namespace Go.Proofs.YtpaoiaogcckibaaDoor
open Go.RowKit

def smithC (l : List Job) (i j : Int) : Int := cmpI ((jobAt l i).time * (jobAt l j).weight) ((jobAt l j).time * (jobAt l i).weight)
theorem jobAt_pos {l : List Job} (h : ∀ p ∈ l, (1 ≤ p.time ∧ p.time ≤ 1000) ∧ (0 ≤ p.due ∧ p.due ≤ 1000) ∧ (0 ≤ p.weight ∧ p.weight ≤ 1000)) (i : Int) : 1 ≤ (jobAt l i).time ∧ 0 ≤ (jobAt l i).weight := by
  unfold jobAt
  by_cases hi : i.toNat < l.length
  · rw [List.getD_eq_getElem?_getD, List.getElem?_eq_getElem hi]
    have := h _ (List.getElem_mem hi)
    simp only [Option.getD_some]; omega
  · rw [List.getD_eq_getElem?_getD, List.getElem?_eq_none (by omega)]
    simp
theorem ratio_trans {t1 t2 t3 w1 w2 w3 : Int} (h1 : 1 ≤ t1) (h2 : 1 ≤ t2) (h3 : 1 ≤ t3) (a : t1 * w2 ≤ t2 * w1) (b : t2 * w3 ≤ t3 * w2) : t1 * w3 ≤ t3 * w1 := by
  have e1 : t1 * (t2 * w3) ≤ t1 * (t3 * w2) := Int.mul_le_mul_of_nonneg_left b (by omega)
  have e2 : t3 * (t1 * w2) ≤ t3 * (t2 * w1) := Int.mul_le_mul_of_nonneg_left a (by omega)
  have e3 : t2 * (t1 * w3) ≤ t2 * (t3 * w1) := by
    rw [Int.mul_left_comm t2 t1 w3, Int.mul_left_comm t2 t3 w1]
    rw [Int.mul_left_comm t1 t3 w2] at e1
    omega
  exact Int.le_of_mul_le_mul_left e3 (by omega)
theorem cmpI_anti (a b : Int) : cmpI a b < 0 ↔ 0 < cmpI b a := by unfold cmpI; split <;> split <;> (try split) <;> omega
theorem cmpI_le {a b : Int} : cmpI a b ≤ 0 ↔ a ≤ b := by unfold cmpI; split <;> (try split) <;> omega
theorem weak_smith {M : Nat} {l : List Job} (h : ∀ p ∈ l, (1 ≤ p.time ∧ p.time ≤ 1000) ∧ (0 ≤ p.due ∧ p.due ≤ 1000) ∧ (0 ≤ p.weight ∧ p.weight ≤ 1000)) : Weak (fun i j : Fin (M + 1) => smithC l i.val j.val) := by
  constructor
  · intro x y; exact cmpI_anti _ _
  · intro x y z
    unfold smithC
    rw [cmpI_le, cmpI_le, cmpI_le]
    intro a b
    exact ratio_trans (jobAt_pos h _).1 (jobAt_pos h _).1 (jobAt_pos h _).1 a b

set_option maxHeartbeats 1000000 in
theorem smithLess (A : Option Addr) (n c bx : Nat) (l : List Job) (x y : Int) (w : World) (hA : Cells w w.heap.size A (jobs l)) (hn : l.length = n) (hbx : w.cell? ⟨bx, 0, none⟩ = some (.slice A n c))
    (hx0 : 0 ≤ x) (hx1 : x < n) (hy0 : 0 ≤ y) (hy1 : y < n) (hm : n ≤ 9223372036854775807)
    (hl : ∀ p ∈ l, (1 ≤ p.time ∧ p.time ≤ 1000) ∧ (0 ≤ p.due ∧ p.due ≤ 1000) ∧ (0 ≤ p.weight ∧ p.weight ≤ 1000)) :
    Calls Tryd.prog 83 #[.int .i64 x, .int .i64 y, .pointer (some ⟨bx, 0, none⟩)] w fun e w' => e = .returned (.int .i64 (smithC l x y)) ∧ ∃ q, w' = w.drewN q := by
  obtain ⟨i, rfl⟩ : ∃ i : Nat, x = i := ⟨x.toNat, by omega⟩
  obtain ⟨j, rfl⟩ : ∃ j : Nat, y = j := ⟨y.toNat, by omega⟩
  obtain ⟨b, off, t1, d1, v1, rfl, _, h1, hc1, _, hd1⟩ := jobs_at hA (show i < l.length by omega)
  obtain ⟨b', off', t2, d2, v2, hbb, _, h2, hc2, _, hd2⟩ := jobs_at hA (show j < l.length by omega)
  simp only [Option.some.injEq, Addr.mk.injEq, and_true] at hbb
  obtain ⟨rfl, rfl⟩ := hbb
  have HC : Hid (smithC l i j = cmpI (t1 * v2) (t2 * v1)) := by
    show _ = _
    simp [smithC, jobAt, h1, h2]
  have g1 := hl _ (List.mem_of_getElem? h1)
  have g2 := hl _ (List.mem_of_getElem? h2)
  simp only at g1 g2
  have m1 : 0 ≤ t1 * v2 := Int.mul_nonneg (by omega) (by omega)
  have m2 : 0 ≤ t2 * v1 := Int.mul_nonneg (by omega) (by omega)
  have m3 : t1 * v2 ≤ 1000 * 1000 := Int.mul_le_mul (by omega) (by omega) (by omega) (by omega)
  have m4 : t2 * v1 ≤ 1000 * 1000 := Int.mul_le_mul (by omega) (by omega) (by omega) (by omega)
  have k1 : IntKind.i64.wrap (t1 * v2) = t1 * v2 := by rw [IntKind.wrap_i64]; omega
  have k2 : IntKind.i64.wrap (t2 * v1) = t2 * v1 := by rw [IntKind.wrap_i64]; omega
  clear h1 h2 hA hn g1 g2 hl
  go_enter Tryd.func83, Tryd.ntmps83
  go_wp2
  go_quiet ((go_at_call 84; exact quiet_l (compare_ _ _ _)))
  go_wp2
  go_ret
  exact ⟨ret_int HC.out.symm, nq, rfl⟩
end Go.Proofs.YtpaoiaogcckibaaDoor
