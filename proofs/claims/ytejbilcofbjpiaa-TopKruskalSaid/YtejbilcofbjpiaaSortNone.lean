/- slices.SortStableFunc over nothing leaves all as it was; and small words for rows. Conditions: none. -/
import Derived.Test.YtejbilcofbjpiaaSortStable
import Derived.Test.YtejbilcofbjpiaaPerm
namespace Go.Proofs.Ytejbilcofbjpiaa
open Go.RowKit

theorem insertNone (A : Option Addr) (n c : Nat) (F : Value) (w : World) :
    Calls Try.prog 27 #[.slice A n c, .int .i64 0, .int .i64 0, F] w fun e w' => e = .returned (.tuple #[]) ∧ w = w' := by
  go_enter Try.func27, Try.ntmps27
  go_wp2
  refine wp_loop_rounds 1 ?_
  rw [rounds_succ]
  go_wp2
  go_end0
  exact ⟨rfl, rfl⟩
theorem stableNone (A : Option Addr) (c : Nat) (F : Value) (w : World) :
    Calls Try.prog 22 #[.slice A 0 c, .int .i64 0, F] w fun e w' => e = .returned (.tuple #[]) ∧ w = w' := by
  go_enter Try.func22, Try.ntmps22
  go_wp2
  refine wp_loop_rounds 1 ?_
  rw [rounds_succ]
  go_wp2_with fail
  refine (insertNone A 0 c F w).mono ?_
  rintro e w1 ⟨rfl, rfl⟩
  go_wp2
  refine wp_loop_rounds 1 ?_
  rw [rounds_succ]
  go_wp2
  go_end0
  exact ⟨rfl, rfl⟩
theorem sortNone (A : Option Addr) (c : Nat) (F : Value) (w : World) :
    Calls Try.prog 11 #[.slice A 0 c, F] w fun e w' => e = .returned (.tuple #[]) ∧ w = w' := by
  go_enter Try.func11, Try.ntmps11
  go_wp2_with fail
  refine (stableNone A c F w).mono ?_
  rintro e w1 ⟨rfl, rfl⟩
  go_wp2
  go_end0
  exact ⟨rfl, rfl⟩

theorem Row.owns {w : World} {g n base : Nat} {xs : List Int} {t : TypeId} (h : Row w g t (ints xs)) (hl : xs.length = n) (hb : base ≤ g) (hm : n ≤ maxLen) : w.ownsRow base t 1 (.slice (some ⟨g, 0, none⟩) n n) n (ints xs) :=
  ⟨by simp [ints, hl], Or.inr ⟨g, n, _, rfl, hb, h, Nat.le_refl _, hm, by simp [ints, hl], by rw [List.take_of_length_le] <;> simp [ints, hl]⟩⟩
/-- a row of n numbers, of which the first k are their own places -/
def fillRow (n k : Nat) : List Value := (List.range n).map fun (i : Nat) => .int .i64 (if i < k then (i : Int) else 0)
theorem fillRow_zero (n : Nat) : List.replicate n (Value.int .i64 0) = fillRow n 0 := by
  apply List.ext_getElem
  · simp [fillRow]
  · intro i h1 h2; simp [fillRow]
theorem fillRow_at {n k i : Nat} (h : i < n) : (fillRow n k)[i]? = some (.int .i64 (if i < k then (i : Int) else 0)) := by simp [fillRow, h]
theorem fillRow_set (n k : Nat) : (fillRow n k).set k (.int .i64 (k : Int)) = fillRow n (k + 1) := by
  apply List.ext_getElem
  · simp [fillRow]
  · intro i h1 h2
    simp only [fillRow, List.getElem_set, List.getElem_map, List.getElem_range]
    split
    · next e => subst e; rw [if_pos (by omega)]
    · next e =>
      by_cases h : i < k
      · rw [if_pos h, if_pos (by omega)]
      · rw [if_neg h, if_neg (by omega)]
theorem fillRow_full (n : Nat) : fillRow n n = ints (upto n) := by
  apply List.ext_getElem
  · simp [fillRow, ints, upto]
  · intro i h1 h2
    have : i < n := by simpa [fillRow] using h1
    simp [fillRow, ints, upto, this]
theorem upto_rising (n : Nat) : (upto n).Pairwise (· < ·) := by
  unfold upto
  rw [List.pairwise_map]
  exact List.pairwise_lt_range.imp fun h => by omega
end Go.Proofs.Ytejbilcofbjpiaa
