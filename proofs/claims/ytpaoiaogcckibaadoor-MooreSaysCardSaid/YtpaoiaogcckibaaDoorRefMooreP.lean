/- Plain: what the document's own Moore leaves, rising. Conditions: none. -/
import Derived.Test.YtpaoiaogcckibaaDoorMooreQ
import Derived.Test.YtpaoiaogcckibaaDoorRefBy0
import Derived.Test.YtpaoiaogcckibaaDoorRefLate
namespace Go.Proofs.YtpaoiaogcckibaaDoor
open Go.RowKit
/-- those of the first k that are left -/
def outM (S : List Int) (k : Nat) : List Int := (upto k).filter fun i => decide (i ∈ S)
theorem outM_snoc (S : List Int) (k : Nat) : outM S (k + 1) = outM S k ++ (if (k : Int) ∈ S then [(k : Int)] else []) := by
  unfold outM
  have e : upto (k + 1) = upto k ++ [(k : Int)] := by simp [upto, List.range_succ]
  rw [e, List.filter_append]
  congr 1
  by_cases h : (k : Int) ∈ S
  · rw [if_pos h]; simp [h]
  · rw [if_neg h]; simp [h]
theorem outM_le (S : List Int) (k : Nat) : (outM S k).length ≤ k := by
  have := List.length_filter_le (fun i => decide (i ∈ S)) (upto k)
  rwa [upto_len] at this
theorem upto_rises (n : Nat) : (upto n).Pairwise (· < ·) := by
  unfold upto
  rw [List.pairwise_map]
  exact List.pairwise_lt_range.imp fun h => by omega
theorem outM_is {S T : List Int} {n : Nat} (hp : T.Perm S) (hr : T.Pairwise (· < ·)) (hs : ∀ i ∈ S, 0 ≤ i ∧ i < n) : outM S n = T := by
  have h1 : (outM S n).Pairwise (· < ·) := (upto_rises n).filter _
  have h2 : (outM S n).Perm T := by
    refine (List.perm_ext_iff_of_nodup (h1.imp fun h e => by omega) (hr.imp fun h e => by omega)).2 fun i => ?_
    unfold outM
    rw [List.mem_filter, mem_upto, hp.mem_iff, decide_eq_true_iff]
    exact ⟨fun h => h.2, fun h => ⟨hs i h, h⟩⟩
  exact h2.eq_of_pairwise (le := fun a b : Int => a < b) (fun a b _ _ h3 h4 => by omega) h1 hr
theorem cells_takeR {w : World} {B : Nat} {A : Option Addr} {xs : List Value} (h : Cells w B A xs) (k : Nat) : Cells w B A (xs.take k) := fun hn => by
  obtain ⟨b', off', e, hb, hc⟩ := h (by rw [List.length_take] at hn; omega)
  refine ⟨b', off', e, hb, fun j u hu => hc j u ?_⟩
  rw [List.getElem?_take] at hu
  split at hu
  · exact hu
  · cases hu
theorem cells_dropR {w : World} {B b off : Nat} {xs : List Value} (h : Cells w B (some ⟨b, off, none⟩) xs) (k : Nat) : Cells w B (some ⟨b, off + k, none⟩) (xs.drop k) := fun hn => by
  obtain ⟨b', off', e, hb, hc⟩ := h (by rw [List.length_drop] at hn; omega)
  simp only [Option.some.injEq, Addr.mk.injEq, and_true] at e
  obtain ⟨rfl, rfl⟩ := e
  refine ⟨b, off + k, rfl, hb, fun j u hu => ?_⟩
  rw [List.getElem?_drop] at hu
  rw [Nat.add_assoc]; exact hc _ u hu
theorem mooreS_rng {l : List Job} {ys : List Int} {n : Nat} (ho : IsOrd n ys) (k : Nat) : ∀ i ∈ mooreS l (ys.take k), 0 ≤ i ∧ i < n := fun i hi => ho.2.1 i (List.mem_of_mem_take ((mooreS_sub l _).subset hi))
theorem mooreS_len {l : List Job} {ys : List Int} {n : Nat} (ho : IsOrd n ys) (k : Nat) : (mooreS l (ys.take k)).length ≤ n := by
  have h1 := (mooreS_sub l (ys.take k)).length_le
  rw [List.length_take] at h1
  have := ho.1; omega
/-- of places in a list: cells, and the job behind one -/
theorem job_behind {w : World} {B k : Nat} {A : Option Addr} {l : List Job} {i : Int} (hA : Cells w B A (jobs l)) (h0 : 0 ≤ i) (h1 : i < l.length) :
    ∃ (q : Nat) (b off : Nat) (t d v : Int), i = q ∧ q < l.length ∧ A = some ⟨b, off, none⟩ ∧ b < B ∧ jobAt l i = ⟨t, d, v⟩ ∧ (⟨t, d, v⟩ : Job) ∈ l ∧ w.cell? ⟨b, off + q * 3, none⟩ = some (.int .i64 t) ∧ w.cell? ⟨b, off + q * 3 + 1, none⟩ = some (.int .i64 d) := by
  obtain ⟨q, rfl⟩ : ∃ q : Nat, i = q := ⟨i.toNat, by omega⟩
  obtain ⟨b, off, t, d, v, e, hb, hx, hc0, hc1, _⟩ := jobs_at hA (show q < l.length by omega)
  exact ⟨q, b, off, t, d, v, rfl, by omega, e, hb, by simp [jobAt, hx], List.mem_of_getElem? hx, hc0, hc1⟩
end Go.Proofs.YtpaoiaogcckibaaDoor
