/- What the document's own Late and Cost answer of an order. Conditions: the jobs are ones that may be, the order is one of them all. -/
import Derived.Test.YtpaoiaogcckibaaDoorDueC
import Derived.Test.YtpaoiaogcckibaaDoorSmithC
namespace Go.Proofs.YtpaoiaogcckibaaDoor
open Go.RowKit
theorem late_snoc (x : Job) : ∀ (l : List Job) (now w : Int), lateFrom now w (l ++ [x]) = max (lateFrom now w l) (now + sumT l + x.time - x.due) := by
  intro l
  induction l with
  | nil => intro now w; simp [lateFrom, sumT]
  | cons j l ih => intro now w; simp only [List.cons_append, lateFrom, sumT, ih]; rw [show now + j.time + sumT l + x.time - x.due = now + (j.time + sumT l) + x.time - x.due by omega]
theorem sumT_snocR (l : List Job) (x : Job) : sumT (l ++ [x]) = sumT l + x.time := by rw [sumT_append]; simp [sumT]
theorem jat_take {l : List Job} {o : List Int} {k : Nat} {i : Int} (h : o[k]? = some i) : jat l (o.take (k + 1)) = jat l (o.take k) ++ [jobAt l i] := by
  unfold jat; rw [take_at h, List.map_append]; rfl
/-- Late of the first so many -/
def lateTo (l : List Job) (o : List Int) (k : Nat) : Int := if k = 0 then 0 else lateFrom 0 (-1000) (jat l (o.take k))
theorem lateTo_next {l : List Job} {o : List Int} {k : Nat} {i : Int} {y late : Int} (h : o[k]? = some i) (hy : y = lateTo l o k) (hl : late = sumT (jat l (o.take (k + 1))) - (jobAt l i).due) (hb : -1000 ≤ late) :
    lateTo l o (k + 1) = if k = 0 ∨ y < late then late else y := by
  unfold lateTo at *
  rw [if_neg (by omega), jat_take h, late_snoc]
  have e : (0 : Int) + sumT (jat l (o.take k)) + (jobAt l i).time - (jobAt l i).due = late := by rw [hl, jat_take h, sumT_snocR]; omega
  rw [e]
  by_cases hk : k = 0
  · subst hk; simp [jat, lateFrom]; omega
  · rw [if_neg hk] at hy
    rw [← hy]
    split
    · next h => rcases h with h | h <;> omega
    · next h => omega
theorem lateTo_all {l : List Job} {o : List Int} (ho : IsOrd l.length o) : lateTo l o o.length = lateVal l o := by
  unfold lateTo lateVal
  rw [ho.1, List.take_of_length_le (by rw [ho.1]; omega)]
set_option maxHeartbeats 1000000 in
theorem refLate (A : Option Addr) (n c : Nat) (A' : Option Addr) (m c' : Nat) (l : List Job) (o : List Int) (w : World) (hA : Cells w w.heap.size A (jobs l)) (hn : l.length = n) (hA' : Cells w w.heap.size A' (ints o)) (hn' : o.length = m) (hj : jobErr l = 0) (ho : IsOrd l.length o) :
    Calls Tryd.prog 41 #[.slice A n c, .slice A' m c'] w fun e w' => e = .returned (.int .i64 (lateVal l o)) ∧ w' = w := by
  have HE := Lib.hid (lateTo_all ho)
  have HN := Lib.hid hn
  have HN' := Lib.hid hn'
  have HO := Lib.hid ho
  have HL := Lib.hid (jobErr_ok hj)
  have hnm : m = n := by have := ho.1; omega
  subst hnm
  have hl16 : m ≤ 16 := by have := HL.out.1; omega
  have HA := Lib.hid hA
  have HA' := Lib.hid hA'
  clear hn hn' ho hj hA hA'
  go_enter Tryd.func41, Tryd.ntmps41
  go_wp2
  go_loop [6, 5] (fun iv wv => ∃ (k : Nat) (y : Int), k ≤ m ∧ iv = .int .i64 (k : Int) ∧ wv = .int .i64 y ∧ -1000 ≤ y ∧ y ≤ 16000 ∧ Hid (y = lateTo l o k)) (fun iv _ => m - (intOf iv).toNat)
  case atStart => exact ⟨0, 0, Nat.zero_le _, rfl, rfl, by omega, by omega, rfl⟩
  case round =>
    obtain ⟨k, y, hk, rfl, rfl, hy0, hy1, HY⟩ := hrel
    by_cases hlt : k < m
    · have hlz : (k : Int) < m := by omega
      obtain ⟨b, off, i, rfl, _, hx, hc0⟩ := ints_at HA'.out (show k < o.length by rw [HN'.out]; exact hlt)
      have hi := HO.out.2.1 i (List.mem_of_getElem? hx)
      obtain ⟨q, rfl⟩ : ∃ q : Nat, i = q := ⟨i.toNat, by omega⟩
      have hq : q < m := by have := HN.out; omega
      have hqz : (q : Int) < m := by omega
      obtain ⟨b', off', t, d, v, rfl, _, hp, hc1, hc2, hc3⟩ := jobs_at HA.out (show q < l.length by rw [HN.out]; exact hq)
      obtain ⟨⟨ht0, ht1⟩, ⟨hd0, hd1⟩, hv0, hv1⟩ := HL.out.2 _ (List.mem_of_getElem? hp)
      simp only at ht0 ht1 hd0 hd1 hv0 hv1
      have HQ : Hid (jobAt l (q : Int) = ⟨t, d, v⟩) := by show _ = _; simp [jobAt, hp]
      have HX := Lib.hid hx
      clear hx hp hi hv0 hv1 hc3
      go_wp2
      go_loop [8, 7] (fun jv ev => ∃ (j : Nat) (x : Int), j ≤ k + 1 ∧ jv = .int .i64 (j : Int) ∧ ev = .int .i64 x ∧ (j : Int) ≤ x ∧ x ≤ 1000 * j ∧ Hid (x = sumT (jat l (o.take j)))) (fun jv _ => k + 1 - (intOf jv).toNat)
      case atStart => exact ⟨0, 0, Nat.zero_le _, rfl, rfl, by omega, by omega, by show _ = _; simp [jat, sumT]⟩
      case round =>
        obtain ⟨j, x, hj, rfl, rfl, hx0, hx1, HS⟩ := hrel
        by_cases hjk : j ≤ k
        · have hjz : (j : Int) ≤ k := by omega
          have hjm : (j : Int) < m := by omega
          obtain ⟨b2, off2, i2, he2, _, hx2, hc4⟩ := ints_at HA'.out (show j < o.length by rw [HN'.out]; omega)
          simp only [Option.some.injEq, Addr.mk.injEq, and_true] at he2
          obtain ⟨rfl, rfl⟩ := he2
          have hi2 := HO.out.2.1 i2 (List.mem_of_getElem? hx2)
          obtain ⟨q2, rfl⟩ : ∃ q : Nat, i2 = q := ⟨i2.toNat, by omega⟩
          have hq2 : q2 < m := by have := HN.out; omega
          have hqz2 : (q2 : Int) < m := by omega
          obtain ⟨b3, off3, t2, d2, v2, he3, _, hp2, hc5, _, _⟩ := jobs_at HA.out (show q2 < l.length by rw [HN.out]; exact hq2)
          simp only [Option.some.injEq, Addr.mk.injEq, and_true] at he3
          obtain ⟨rfl, rfl⟩ := he3
          obtain ⟨⟨ht2, ht3⟩, _, _⟩ := HL.out.2 _ (List.mem_of_getElem? hp2)
          simp only at ht2 ht3
          have HS2 : Hid (x + t2 = sumT (jat l (o.take (j + 1)))) := by
            show _ = _
            rw [jat_take hx2, sumT_snocR, ← HS.out]
            simp [jobAt, hp2]
          clear hx2 hp2 hi2
          go_wp2
          go_round
          case rel => exact ⟨j + 1, x + t2, by omega, by go_num, rfl, by omega, by omega, HS2⟩
          case measure => simp [intOf]; omega
        · have hjk2 : j = k + 1 := by omega
          subst hjk2
          have hjz : ¬ ((k + 1 : Nat) : Int) ≤ k := by omega
          have HNX : Hid (lateTo l o (k + 1) = if k = 0 ∨ y < x - d then x - d else y) := lateTo_next HX.out HY.out (by rw [HQ.out]; show _ = _ - d; rw [HS.out]) (by omega)
          by_cases hk0 : k = 0
          · have hkb : ((k : Int) == 0) = true := by simp [hk0]
            have HN2 : Hid (x - d = lateTo l o (k + 1)) := by show _ = _; rw [HNX.out, if_pos (Or.inl hk0)]
            clear hk0
            go_wp2
            go_round
            case rel => exact ⟨k + 1, x - d, by omega, by go_num, rfl, by omega, by omega, HN2⟩
            case measure => simp [intOf]; omega
          · have hkb : ((k : Int) == 0) = false := beq_eq_false_iff_ne.2 (by omega)
            by_cases hyl : y < x - d
            · have HN2 : Hid (x - d = lateTo l o (k + 1)) := by show _ = _; rw [HNX.out, if_pos (Or.inr hyl)]
              go_wp2
              go_round
              case rel => exact ⟨k + 1, x - d, by omega, by go_num, rfl, by omega, by omega, HN2⟩
              case measure => simp [intOf]; omega
            · have HN2 : Hid (y = lateTo l o (k + 1)) := by show _ = _; rw [HNX.out, if_neg (by omega)]
              go_wp2
              go_round
              case rel => exact ⟨k + 1, y, by omega, by go_num, rfl, by omega, by omega, HN2⟩
              case measure => simp [intOf]; omega
    · have hlz : ¬ (k : Int) < m := by omega
      have HEE : Hid (y = lateVal l o) := by
        show _ = _
        rw [HY.out, ← HE.out, show k = o.length by rw [HN'.out]; omega]
      go_wp2
      go_ret
      exact ⟨ret_int HEE.out, rfl⟩
set_option maxHeartbeats 1000000 in
theorem refCost (A : Option Addr) (n c : Nat) (A' : Option Addr) (m c' : Nat) (l : List Job) (o : List Int) (w : World) (hA : Cells w w.heap.size A (jobs l)) (hn : l.length = n) (hA' : Cells w w.heap.size A' (ints o)) (hn' : o.length = m) (hj : jobErr l = 0) (ho : IsOrd l.length o) :
    Calls Tryd.prog 36 #[.slice A n c, .slice A' m c'] w fun e w' => e = .returned (.int .i64 (costFrom 0 (jat l o))) ∧ ∃ q, w' = w.drewN q := by
  have HN := Lib.hid hn
  have HN' := Lib.hid hn'
  have HO := Lib.hid ho
  have HL := Lib.hid (jobErr_ok hj)
  have hnm : m = n := by have := ho.1; omega
  subst hnm
  have hl16 : m ≤ 16 := by have := HL.out.1; omega
  have HA := Lib.hid hA
  have HA' := Lib.hid hA'
  clear hn hn' ho hj hA hA'
  go_enter Tryd.func36, Tryd.ntmps36
  go_wp2
  go_loopw [6, 5] (fun iv sv wr => ∃ (k : Nat) (y : Int), k ≤ m ∧ iv = .int .i64 (k : Int) ∧ sv = .int .i64 y ∧ 0 ≤ y ∧ y ≤ 16000000 * k ∧ Hid (y = costFrom 0 (jat l (o.take k))) ∧ Hid (∃ q, wr = w.drewN q)) (fun iv _ _ => m - (intOf iv).toNat)
  case atStart => exact ⟨0, 0, Nat.zero_le _, rfl, rfl, by omega, by omega, by show _ = _; simp [jat, costFrom], 0, rfl⟩
  case round =>
    obtain ⟨k, y, hk, rfl, rfl, hy0, hy1, HY, HW⟩ := hrel
    by_cases hlt : k < m
    · have hlz : (k : Int) < m := by omega
      obtain ⟨b, off, i, rfl, _, hx, hc0⟩ := ints_at HA'.out (show k < o.length by rw [HN'.out]; exact hlt)
      have hi := HO.out.2.1 i (List.mem_of_getElem? hx)
      obtain ⟨q, rfl⟩ : ∃ q : Nat, i = q := ⟨i.toNat, by omega⟩
      have hq : q < m := by have := HN.out; omega
      have hqz : (q : Int) < m := by omega
      obtain ⟨b', off', t, d, v, rfl, _, hp, hc1, hc2, hc3⟩ := jobs_at HA.out (show q < l.length by rw [HN.out]; exact hq)
      obtain ⟨⟨ht0, ht1⟩, ⟨hd0, hd1⟩, hv0, hv1⟩ := HL.out.2 _ (List.mem_of_getElem? hp)
      simp only at ht0 ht1 hd0 hd1 hv0 hv1
      have HQ : Hid (jobAt l (q : Int) = ⟨t, d, v⟩) := by show _ = _; simp [jobAt, hp]
      have HX := Lib.hid hx
      clear hx hp hi hc1 hc2 ht0 ht1 hd0 hd1
      go_wp2
      go_loopw [7, 5] (fun jv sv wr => ∃ (j : Nat) (z : Int), j ≤ k + 1 ∧ jv = .int .i64 (j : Int) ∧ sv = .int .i64 z ∧ 0 ≤ z ∧ z ≤ y + 1000000 * j ∧ Hid (z = y + sumT (jat l (o.take j)) * v) ∧ Hid (∃ q, wr = w.drewN q)) (fun jv _ _ => k + 1 - (intOf jv).toNat)
      case atStart => exact ⟨0, y, Nat.zero_le _, rfl, rfl, by omega, by omega, by show _ = _; simp [jat, sumT], HW.out⟩
      case round =>
        clear HW
        obtain ⟨j, z, hj, rfl, rfl, hz0, hz1, HS, HW⟩ := hrel
        by_cases hjk : j ≤ k
        · have hjz : (j : Int) ≤ k := by omega
          have hjm : (j : Int) < m := by omega
          obtain ⟨b2, off2, i2, he2, _, hx2, hc4⟩ := ints_at HA'.out (show j < o.length by rw [HN'.out]; omega)
          simp only [Option.some.injEq, Addr.mk.injEq, and_true] at he2
          obtain ⟨rfl, rfl⟩ := he2
          have hi2 := HO.out.2.1 i2 (List.mem_of_getElem? hx2)
          obtain ⟨q2, rfl⟩ : ∃ q : Nat, i2 = q := ⟨i2.toNat, by omega⟩
          have hq2 : q2 < m := by have := HN.out; omega
          have hqz2 : (q2 : Int) < m := by omega
          obtain ⟨b3, off3, t2, d2, v2, he3, _, hp2, hc5, _, _⟩ := jobs_at HA.out (show q2 < l.length by rw [HN.out]; exact hq2)
          simp only [Option.some.injEq, Addr.mk.injEq, and_true] at he3
          obtain ⟨rfl, rfl⟩ := he3
          obtain ⟨⟨ht2, ht3⟩, _, _⟩ := HL.out.2 _ (List.mem_of_getElem? hp2)
          simp only at ht2 ht3
          have HS2 : Hid (z + t2 * v = y + sumT (jat l (o.take (j + 1))) * v) := by
            show _ = _
            rw [jat_take hx2, sumT_snocR, HS.out, Int.add_mul]
            simp [jobAt, hp2]; omega
          have m1 : 0 ≤ t2 * v := Int.mul_nonneg (by omega) hv0
          have m2 : t2 * v ≤ 1000 * 1000 := Int.mul_le_mul ht3 hv1 hv0 (by omega)
          have k1 : IntKind.i64.wrap (t2 * v) = t2 * v := by rw [IntKind.wrap_i64]; omega
          have k2 : IntKind.i64.wrap (z + t2 * v) = z + t2 * v := by rw [IntKind.wrap_i64]; omega
          obtain ⟨qw, rfl⟩ := HW.out
          clear hx2 hp2 hi2 HW
          go_wp2
          go_quiet (fail)
          go_wp2
          clear k1 k2
          go_roundw
          case rel => exact ⟨j + 1, z + t2 * v, by omega, by go_num, rfl, by omega, by omega, HS2, _, rfl⟩
          case measure => simp [intOf]; omega
        · have hjk2 : j = k + 1 := by omega
          subst hjk2
          have hjz : ¬ ((k + 1 : Nat) : Int) ≤ k := by omega
          have HNX : Hid (z = costFrom 0 (jat l (o.take (k + 1)))) := by
            show _ = _
            have h1 := HS.out
            rw [jat_take HX.out] at h1 ⊢
            rw [cost_snoc, h1, HY.out, HQ.out, sumT_snocR]
            simp
          go_wp2
          go_roundw
          case rel => exact ⟨k + 1, z, by omega, by go_num, rfl, by omega, by omega, HNX, HW.out⟩
          case measure => simp [intOf]; omega
    · have hlz : ¬ (k : Int) < m := by omega
      have HEE : Hid (y = costFrom 0 (jat l o)) := by
        show _ = _
        rw [HY.out, List.take_of_length_le (by rw [HN'.out]; omega)]
      obtain ⟨qw, rfl⟩ := HW.out
      clear HW
      go_wp2
      go_ret
      exact ⟨ret_int HEE.out, qw, rfl⟩
end Go.Proofs.YtpaoiaogcckibaaDoor
