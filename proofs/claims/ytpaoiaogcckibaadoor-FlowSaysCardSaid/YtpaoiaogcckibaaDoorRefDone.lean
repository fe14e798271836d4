/- What the document's own Done answers of an order: the longest of the ways is when the last job is done. Conditions: the jobs are ones that may be, the order is one of them all. -/
import Derived.Test.YtpaoiaogcckibaaDoorFlowB
namespace Go.Proofs.YtpaoiaogcckibaaDoor
open Go.RowKit
/-- the way up to k on the first machine, from k on on the second one -/
def wayJ (ps : List (Int × Int)) (k : Nat) : Int := sa (ps.take (k + 1)) + sb (ps.drop k)
def mostJ (ps : List (Int × Int)) : Nat → Int
  | 0 => 0
  | k + 1 => max (mostJ ps k) (wayJ ps k)
/-- the same, of the first i -/
def partJ (ps : List (Int × Int)) (k i : Nat) : Int := sa ((ps.take i).take (k + 1)) + sb ((ps.take i).drop k)
theorem sa_one (p : Int × Int) : sa [p] = p.1 := by simp [sa]
theorem sb_one (p : Int × Int) : sb [p] = p.2 := by simp [sb]
theorem partJ_all (ps : List (Int × Int)) (k : Nat) : partJ ps k ps.length = wayJ ps k := by unfold partJ wayJ; rw [List.take_length]
theorem partJ_next {ps : List (Int × Int)} {k i : Nat} {p : Int × Int} (h : ps[i]? = some p) : partJ ps k (i + 1) = partJ ps k i + (if i ≤ k then p.1 else 0) + (if k ≤ i then p.2 else 0) := by
  have hi : i < ps.length := (List.getElem?_eq_some_iff.1 h).1
  have hl : (ps.take i).length = i := by rw [List.length_take]; omega
  unfold partJ
  rw [take_at h]
  by_cases h1 : i ≤ k
  · rw [if_pos h1, List.take_of_length_le (by rw [List.length_append, hl]; simp; omega), List.take_of_length_le (l := ps.take i) (by omega), sa_append, sa_one]
    by_cases h2 : k ≤ i
    · have e : k = i := by omega
      subst e
      rw [if_pos (Nat.le_refl _), List.drop_append_of_le_length (by omega), sb_append, sb_one]; omega
    · rw [if_neg h2, List.drop_of_length_le (by rw [List.length_append, hl]; simp; omega), List.drop_of_length_le (l := ps.take i) (by omega)]; omega
  · rw [if_neg h1, if_pos (by omega), List.take_append_of_le_length (by omega), List.drop_append_of_le_length (by omega), sb_append, sb_one]; omega
theorem wayJ_nonneg {ps : List (Int × Int)} (hp : Pos ps) (k : Nat) : 0 ≤ wayJ ps k := by
  unfold wayJ
  have h1 := (done_bounds (ps.take (k + 1)) (fun p hm => hp p (List.mem_of_mem_take hm))).2.2.2.1
  have h2 := (done_bounds (ps.drop k) (fun p hm => hp p (List.mem_of_mem_drop hm))).2.2.2.2
  omega
theorem wayJ_snoc {ps : List (Int × Int)} {k : Nat} (p : Int × Int) (hk : k < ps.length) : wayJ (ps ++ [p]) k = wayJ ps k + p.2 := by
  unfold wayJ
  rw [List.take_append_of_le_length (by omega), List.drop_append_of_le_length (by omega), sb_append, sb_one]; omega
theorem mostJ_snoc {ps : List (Int × Int)} (hp : Pos ps) (p : Int × Int) (h0 : 0 ≤ p.2) : ∀ k : Nat, k ≤ ps.length → 0 < k → mostJ (ps ++ [p]) k = mostJ ps k + p.2 := by
  intro k
  induction k with
  | zero => intro _ h; omega
  | succ k ih =>
    intro hk _
    have h1 := wayJ_snoc p (show k < ps.length by omega)
    have h2 := wayJ_nonneg hp k
    simp only [mostJ]
    rw [h1]
    by_cases h3 : 0 < k
    · rw [ih (by omega) h3]; omega
    · have : k = 0 := by omega
      subst this
      simp only [mostJ]; omega
theorem mostJ_done : ∀ (n : Nat) (ps : List (Int × Int)), ps.length = n → Pos ps → mostJ ps n = done ps := by
  intro n
  induction n with
  | zero => intro ps h _; rw [List.eq_nil_of_length_eq_zero h]; rfl
  | succ n ih =>
    intro ps h hp
    obtain ⟨qs, p, rfl⟩ : ∃ qs p, ps = qs ++ [p] := by
      have hne : ps ≠ [] := fun e => by rw [e] at h; simp at h
      exact ⟨ps.dropLast, ps.getLast hne, (List.dropLast_concat_getLast hne).symm⟩
    have hl : qs.length = n := by simpa using h
    have hq : Pos qs := fun x hx => hp x (by simp [hx])
    have hp0 := hp p (by simp)
    rw [done_snoc, ← ih qs hl hq]
    simp only [mostJ]
    have hw : wayJ (qs ++ [p]) n = sa qs + p.1 + p.2 := by
      unfold wayJ
      rw [List.take_of_length_le (by rw [List.length_append, hl]; simp), List.drop_append_of_le_length (by omega), sa_append, sa_one, List.drop_of_length_le (by omega)]
      simp [sb]
    rw [hw]
    by_cases h3 : 0 < n
    · rw [mostJ_snoc hq p hp0.2 n (by omega) h3]; omega
    · have : n = 0 := by omega
      subst this
      have := List.eq_nil_of_length_eq_zero hl
      subst this
      simp only [mostJ, sa]; omega
theorem pos_patD {l : List (Int × Int)} {o : List Int} (h : pairErr l = 0) (ho : IsOrd l.length o) : Pos (pat l o) := fun p hp => by
  obtain ⟨i, hi, rfl⟩ := List.mem_map.1 hp
  have h1 := ho.2.1 i hi
  have : l.getD i.toNat (0, 0) ∈ l := by rw [List.getD_eq_getElem?_getD, List.getElem?_eq_getElem (by omega), Option.getD_some]; exact List.getElem_mem _
  have := (pairErr_ok h).2 _ this
  exact ⟨this.1.1, this.2.1⟩
set_option maxHeartbeats 1000000 in
theorem refDone (A : Option Addr) (n c : Nat) (A' : Option Addr) (m c' : Nat) (l : List (Int × Int)) (o : List Int) (w : World) (hA : Cells w w.heap.size A (pairs l)) (hn : l.length = n) (hA' : Cells w w.heap.size A' (ints o)) (hn' : o.length = m) (hj : pairErr l = 0) (ho : IsOrd l.length o) :
    Calls Tryd.prog 47 #[.slice A n c, .slice A' m c'] w fun e w' => e = .returned (.int .i64 (done (pat l o))) ∧ w' = w := by
  have HE : Hid (mostJ (pat l o) o.length = done (pat l o)) := mostJ_done _ _ (by simp [pat]) (pos_patD hj ho)
  have HN := Lib.hid hn
  have HN' := Lib.hid hn'
  have HO := Lib.hid ho
  have HL := Lib.hid (pairErr_ok hj)
  have hnm : m = n := by have := ho.1; omega
  subst hnm
  have hl16 : m ≤ 16 := by have := HL.out.1; omega
  have HA := Lib.hid hA
  have HA' := Lib.hid hA'
  clear hn hn' ho hj hA hA'
  go_enter Tryd.func47, Tryd.ntmps47
  go_wp2
  go_loop [6, 5] (fun kv mv => ∃ (k : Nat) (y : Int), k ≤ m ∧ kv = .int .i64 (k : Int) ∧ mv = .int .i64 y ∧ 0 ≤ y ∧ y ≤ 32000 ∧ Hid (y = mostJ (pat l o) k)) (fun kv _ => m - (intOf kv).toNat)
  case atStart => exact ⟨0, 0, Nat.zero_le _, rfl, rfl, by omega, by omega, rfl⟩
  case round =>
    obtain ⟨k, y, hk, rfl, rfl, hy0, hy1, HY⟩ := hrel
    by_cases hlt : k < m
    · have hlz : (k : Int) < m := by omega
      go_wp2
      go_loop [8, 7] (fun iv sv => ∃ (i : Nat) (s : Int), i ≤ m ∧ iv = .int .i64 (i : Int) ∧ sv = .int .i64 s ∧ 0 ≤ s ∧ s ≤ 2000 * i ∧ Hid (s = partJ (pat l o) k i)) (fun iv _ => m - (intOf iv).toNat)
      case atStart => exact ⟨0, 0, Nat.zero_le _, rfl, rfl, by omega, by omega, by show _ = _; simp [partJ, sa, sb]⟩
      case round =>
        obtain ⟨i, s, hi, rfl, rfl, hs0, hs1, HS⟩ := hrel
        by_cases him : i < m
        · have hiz : (i : Int) < m := by omega
          obtain ⟨b2, off2, i2, rfl, _, hx2, hc4⟩ := ints_at HA'.out (show i < o.length by rw [HN'.out]; omega)
          have hi2 := HO.out.2.1 i2 (List.mem_of_getElem? hx2)
          obtain ⟨q2, rfl⟩ : ∃ q : Nat, i2 = q := ⟨i2.toNat, by omega⟩
          have hq2 : q2 < m := by have := HN.out; omega
          have hqz2 : (q2 : Int) < m := by omega
          obtain ⟨b3, off3, x, z, rfl, _, hp2, hc5, hc6⟩ := pairs_at HA.out (show q2 < l.length by rw [HN.out]; exact hq2)
          obtain ⟨⟨hx0, hx1⟩, ⟨hz0, hz1⟩⟩ := HL.out.2 _ (List.mem_of_getElem? hp2)
          simp only at hx0 hx1 hz0 hz1
          have hpa : (pat l o)[i]? = some (x, z) := by unfold pat; rw [List.getElem?_map, hx2]; simp [hp2]
          have HNX := Lib.hid (partJ_next (k := k) hpa)
          clear hx2 hp2 hi2 hpa
          rcases Nat.lt_trichotomy i k with h | h | h
          · have hik : (i : Int) ≤ k := by omega
            have hki : ¬ (k : Int) ≤ i := by omega
            have HS2 : Hid (s + x = partJ (pat l o) k (i + 1)) := by show _ = _; rw [HNX.out, if_pos (by omega), if_neg (by omega), ← HS.out]; simp
            go_wp2
            go_round
            case rel => exact ⟨i + 1, s + x, by omega, by go_num, rfl, by omega, by omega, HS2⟩
            case measure => simp [intOf]; omega
          · have hik : (i : Int) ≤ k := by omega
            have hki : (k : Int) ≤ i := by omega
            have HS2 : Hid (s + x + z = partJ (pat l o) k (i + 1)) := by show _ = _; rw [HNX.out, if_pos (by omega), if_pos (by omega), ← HS.out]
            clear h
            go_wp2
            go_round
            case rel => exact ⟨i + 1, s + x + z, by omega, by go_num, rfl, by omega, by omega, HS2⟩
            case measure => simp [intOf]; omega
          · have hik : ¬ (i : Int) ≤ k := by omega
            have hki : (k : Int) ≤ i := by omega
            have HS2 : Hid (s + z = partJ (pat l o) k (i + 1)) := by show _ = _; rw [HNX.out, if_neg (by omega), if_pos (by omega), ← HS.out]; simp
            go_wp2
            go_round
            case rel => exact ⟨i + 1, s + z, by omega, by go_num, rfl, by omega, by omega, HS2⟩
            case measure => simp [intOf]; omega
        · have him2 : i = m := by omega
          subst him2
          have hiz : ¬ (i : Int) < i := by omega
          have HW : Hid (s = wayJ (pat l o) k) := by
            show _ = _
            rw [HS.out, ← partJ_all, show (pat l o).length = i by simp [pat, HN'.out]]
          by_cases hys : y < s
          · have HY2 : Hid (s = mostJ (pat l o) (k + 1)) := by show _ = _; simp only [mostJ]; rw [← HY.out, ← HW.out]; omega
            go_wp2
            go_round
            case rel => exact ⟨k + 1, s, by omega, by go_num, rfl, by omega, by omega, HY2⟩
            case measure => simp [intOf]; omega
          · have HY2 : Hid (y = mostJ (pat l o) (k + 1)) := by show _ = _; simp only [mostJ]; rw [← HY.out, ← HW.out]; omega
            go_wp2
            go_round
            case rel => exact ⟨k + 1, y, by omega, by go_num, rfl, by omega, by omega, HY2⟩
            case measure => simp [intOf]; omega
    · have hlz : ¬ (k : Int) < m := by omega
      have HEE : Hid (y = done (pat l o)) := by
        show _ = _
        rw [HY.out, ← HE.out, show k = o.length by rw [HN'.out]; omega]
      go_wp2
      go_ret
      exact ⟨ret_int HEE.out, rfl⟩
end Go.Proofs.YtpaoiaogcckibaaDoor
