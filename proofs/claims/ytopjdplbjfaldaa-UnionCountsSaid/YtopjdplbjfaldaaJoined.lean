/- What the law's own helper joined leaves: groups of n things, of which pairs are joined, forwards or backwards. Conditions: lengths are such that slices can have. -/
import Derived.Test.YtopjdplbjfaldaaUnionGen
import Derived.Test.YtopjdplbjfaldaaRowsEq
namespace Go.Proofs.Ytopjdplbjfaldaa
open Go.RowKit

def pairOf (r : RV) : Int × Int := (r.xs.getD 0 0, r.xs.getD 1 0)
/-- the pairs as they are joined -/
def seqOf (back : Bool) (rs : List RV) : List (Int × Int) := if back = true then (rs.map fun r => ((pairOf r).2, (pairOf r).1)).reverse else rs.map pairOf
/-- can all be joined? -/
def CanJoin (n : Int) (rs : List RV) : Prop := (0 ≤ n ∧ n ≤ 60) ∧ rs.length ≤ 60 ∧ ∀ r ∈ rs, 2 ≤ r.xs.length
def JoinedNo (w : World) (e : Ending) (w' : World) : Prop := ∃ v : Option Addr, e = .returned (.tuple #[.pointer v, .bool false]) ∧ Below w.heap.size w w'
def JoinedYes (w : World) (n : Nat) (E : List (Int × Int)) (e : Ending) (w' : World) : Prop :=
  ∃ p U cu S cs R, e = .returned (.tuple #[.pointer (some ⟨p, 0, none⟩), .bool true]) ∧ UG w' w.heap.size p n U cu S cs R ∧ Gen n E R ∧ Below w.heap.size w w'
theorem seqOf_at {back : Bool} {rs : List RV} {k q : Nat} {r : RV} (hr : rs[q]? = some r) (hq : if back = true then q + k + 1 = rs.length else q = k) :
    (seqOf back rs)[k]? = some (if back = true then ((pairOf r).2, (pairOf r).1) else pairOf r) := by
  unfold seqOf
  cases back with
  | true =>
    simp only [if_true] at hq ⊢
    rw [List.getElem?_reverse (by simp; omega)]
    simp only [List.length_map]
    rw [show rs.length - 1 - k = q by omega]
    simp [hr]
  | false =>
    simp only [Bool.false_eq_true, if_false] at hq ⊢
    subst hq; simp [hr]
theorem seqOf_len (back : Bool) (rs : List RV) : (seqOf back rs).length = rs.length := by unfold seqOf; split <;> simp
theorem UG.toBelow {w w' : World} {base p n cu cs : Nat} {U S : Option Addr} {R : Nat → Nat} {B : Nat} (h : UG w base p n U cu S cs R) (hk : Keeps (ugs p U S) w w') (hB : B ≤ base) (hs : B ≤ w.heap.size) : Below B w w' :=
  hk.below (fun x hx => by have := (h.base_le x hx).1; omega) hs
theorem pair_cells {w : World} {B : Nat} {r : RV} (h : Cells w B r.at_ (ints r.xs)) (h2 : 2 ≤ r.xs.length) : ∃ b off a c, r.at_ = some ⟨b, off, none⟩ ∧ b < B ∧ pairOf r = (a, c) ∧ w.cell? ⟨b, off, none⟩ = some (.int .i64 a) ∧ w.cell? ⟨b, off + 1, none⟩ = some (.int .i64 c) := by
  obtain ⟨b, off, x, e, hb, hx, hc⟩ := ints_at h (show 0 < r.xs.length by omega)
  obtain ⟨b', off', y, e', _, hy, hc'⟩ := ints_at h (show 1 < r.xs.length by omega)
  rw [e] at e'
  simp only [Option.some.injEq, Addr.mk.injEq, and_true] at e'
  obtain ⟨rfl, rfl⟩ := e'
  exact ⟨b, off, x, y, e, hb, by simp [pairOf, hx, hy], hc, hc'⟩

set_option maxHeartbeats 2000000 in
set_option maxRecDepth 100000 in
theorem joined_badN (n : Int) (A : Option Addr) (m c : Nat) (back : Bool) (w : World) (hn : ¬ (0 ≤ n ∧ n ≤ 60)) :
    Calls Try.prog 12 #[.int .i64 n, .slice A m c, .bool back] w (JoinedNo w) := by
  have c1 := Lib.hid (new_bad n w hn)
  clear hn
  go_enter Try.func12, Try.ntmps12
  go_wp2_with fail
  refine c1.out.mono ?_
  rintro e w1 ⟨rfl, rfl⟩
  go_wp2
  go_ret2
  exact ⟨none, rfl, Below.refl _ _⟩

set_option maxHeartbeats 2000000 in
set_option maxRecDepth 100000 in
theorem joined_badL (n : Nat) (A : Option Addr) (m c : Nat) (back : Bool) (w : World) (hn : n ≤ 60) (hm : 60 < m) (hmm : m ≤ 9223372036854775807) :
    Calls Try.prog 12 #[.int .i64 (n : Int), .slice A m c, .bool back] w (JoinedNo w) := by
  have c1 := Lib.hid (new_ok n w hn)
  have hz : (60 : Int) < m := by omega
  have hz0 : (0 : Int) < m := by omega
  go_enter Try.func12, Try.ntmps12
  go_wp2_with fail
  refine c1.out.mono ?_
  rintro e w1 ⟨p, U, cu, S, cs, rfl, hu, hb⟩
  have HB := Lib.hid hb
  clear hu hb c1
  have HF : Hid (JoinedNo w (.returned (.tuple #[.pointer (some ⟨p, 0, none⟩), .bool false])) w1) := ⟨_, rfl, HB.out⟩
  go_wp2
  refine wp_loop_rounds 1 ?_
  rw [rounds_succ]
  cases back with
  | true =>
    go_wp2
    go_ret2
    exact HF.out
  | false =>
    go_wp2
    go_ret2
    exact HF.out

set_option maxHeartbeats 4000000 in
set_option maxRecDepth 100000 in
theorem joined_walkfalse (n : Nat) (A : Option Addr) (m c : Nat) (rs : List RV) (w : World) (hA : RowsAt w w.heap.size A rs) (hl : rs.length = m) (hn : n ≤ 60) (hm : m ≤ 60) (hrl : ∀ r ∈ rs, r.xs.length ≤ 9223372036854775807) :
    Calls Try.prog 12 #[.int .i64 (n : Int), .slice A m c, .bool false] w fun e w' => ((∀ r ∈ rs, 2 ≤ r.xs.length) → JoinedYes w n (seqOf false rs) e w') ∧ ((¬ ∀ r ∈ rs, 2 ≤ r.xs.length) → JoinedNo w e w') := by
  have c1 := Lib.hid (new_ok n w hn)
  have HL := Lib.hid hl
  have HRL := Lib.hid hrl
  clear hl hrl
  obtain ⟨Q, hQ⟩ : ∃ Q : Ending → World → Prop, Q = fun e w' => ((∀ r ∈ rs, 2 ≤ r.xs.length) → JoinedYes w n (seqOf false rs) e w') ∧ ((¬ ∀ r ∈ rs, 2 ≤ r.xs.length) → JoinedNo w e w') := ⟨_, rfl⟩
  rw [← hQ]
  have HQ := Lib.hid hQ
  clear hQ
  go_enter Try.func12, Try.ntmps12
  go_wp2_with fail
  refine c1.out.mono ?_
  rintro e w1 ⟨p, U, cu, S, cs, rfl, hu, hb⟩
  have HU := Lib.hid hu
  have HB := Lib.hid hb
  clear hu hb c1
  go_wp2
  go_loopw [10] (fun i wr => ∃ (k : Nat) (R : Nat → Nat), k ≤ m ∧ i = .int .i64 (k : Int) ∧ Hid (UG wr w.heap.size p n U cu S cs R) ∧ Hid (Gen n ((seqOf false rs).take k) R) ∧ Hid (Below w.heap.size w wr) ∧ Hid (∀ j r q, j < k → rs[q]? = some r → (q = j) → 2 ≤ r.xs.length)) (fun i _ => m - (intOf i).toNat)
  case atStart => exact ⟨0, id, Nat.zero_le _, rfl, HU.out, Gen.start n, HB.out, fun j r q hj => by omega⟩
  case round =>
    clear HU HB
    obtain ⟨k, R, hk, rfl, HU, HG, HB, HS⟩ := hrel
    have hsz := HB.out.size
    by_cases hlt : k < m
    · have hlz : (k : Int) < m := by omega
      have hl60 : (k : Int) < 60 := by omega
      have hm60 : ¬ (60 : Int) < m := by omega
      obtain ⟨q, hq⟩ : ∃ q : Nat, q = k := ⟨k, by omega⟩
      have hqm : q < m := by omega
      have hqz : (q : Int) < m := by omega
      obtain rfl : k = q := hq.symm
      have HQ2 : Hid (k = k) := rfl
      obtain ⟨b, off, r, rfl, hbb, hr, hc, hrow⟩ := hA.at_k (show k < rs.length by rw [HL.out]; exact hqm)
      rw [← HB.out.cell (p := ⟨b, off + k, none⟩) hbb] at hc
      have HR := Lib.hid hr
      have hlr := HRL.out r (List.mem_of_getElem? hr)
      obtain ⟨lr, hlr'⟩ : ∃ lr, lr = r.xs.length := ⟨_, rfl⟩
      rw [← hlr'] at hc hlr
      have HLR := Lib.hid hlr'
      skip
      clear hr hlr'
      by_cases h2 : 2 ≤ lr
      · obtain ⟨b2, off2, a, d, hat, hb2, hpo, ha, hd⟩ := pair_cells hrow (by rw [← HLR.out]; exact h2)
        rw [hat] at hc
        rw [← HB.out.cell (p := ⟨b2, off2, none⟩) hb2] at ha
        rw [← HB.out.cell (p := ⟨b2, off2 + 1, none⟩) hb2] at hd
        have hl0 : (0 : Int) < lr := by omega
        have hl1 : (1 : Int) < lr := by omega
        have hl2 : ¬ (lr : Int) < 2 := by omega
        have HT : Hid ((seqOf false rs).take (k + 1) = (seqOf false rs).take k ++ [(a, d)]) := take_at (by
          rw [seqOf_at HR.out (by simp), hpo]; rfl)
        have cj := Lib.hid (joinG a d HU.out HG.out)
        clear hat hpo hrow hA
        go_wp2_with (go_at_call 17; refine cj.out.mono ?_; rintro e w4 ⟨t, R', rfl, hu', hg', hk', hroots, _⟩; have HU' := Lib.hid hu'; have HG' := Lib.hid hg'; have HK' := Lib.hid hk'; clear hu' hg' hk' hroots)
        have HB' : Hid (Below w.heap.size w w4) := HB.out.trans (HU.out.toBelow HK'.out (Nat.le_refl _) hsz)
        go_roundw
        case rel =>
          refine ⟨k + 1, R', by omega, by go_num, HU'.out, ?_, HB'.out, ?_⟩
          · show Gen _ _ _
            rw [HT.out]; exact HG'.out
          · intro j s k' hj hs hi
            by_cases hjk : j < k
            · exact HS.out j s k' hjk hs hi
            · have e1 : k' = k := by have := HQ2.out; omega
              subst e1
              have e2 := HR.out
              rw [hs] at e2
              injection e2 with e2
              rw [e2, ← HLR.out]; exact h2
        case measure => simp [intOf]; omega
      · have hl2 : (lr : Int) < 2 := by omega
        have HF : Hid (Q (.returned (.tuple #[.pointer (some ⟨p, 0, none⟩), .bool false])) wr) := by
          show Q _ _
          rw [HQ.out]
          exact ⟨fun h => absurd (h r (List.mem_of_getElem? HR.out)) (by rw [← HLR.out]; exact h2), fun _ => ⟨_, rfl, HB.out⟩⟩
        clear hA hrow
        go_wp2
        exact HF.out
    · have hkm : k = m := by omega
      subst hkm
      have hlz : ¬ (k : Int) < k := by omega
      have HF : Hid (Q (.returned (.tuple #[.pointer (some ⟨p, 0, none⟩), .bool true])) wr) := by
        show Q _ _
        rw [HQ.out]
        have hall : ∀ r ∈ rs, 2 ≤ r.xs.length := fun r hr => by
          obtain ⟨q, hq⟩ := List.getElem?_of_mem hr
          have hql : q < k := by have := (List.getElem?_eq_some_iff.1 hq).1; rw [HL.out] at this; exact this
          exact HS.out q r q (by omega) hq (by omega)
        have hg := HG.out
        rw [List.take_of_length_le (by rw [seqOf_len, HL.out]; omega)] at hg
        exact ⟨fun _ => ⟨p, U, cu, S, cs, R, rfl, HU.out, hg, HB.out⟩, fun h => absurd hall h⟩
      clear hA
      go_wp2
      exact HF.out

set_option maxHeartbeats 4000000 in
set_option maxRecDepth 100000 in
theorem joined_walktrue (n : Nat) (A : Option Addr) (m c : Nat) (rs : List RV) (w : World) (hA : RowsAt w w.heap.size A rs) (hl : rs.length = m) (hn : n ≤ 60) (hm : m ≤ 60) (hrl : ∀ r ∈ rs, r.xs.length ≤ 9223372036854775807) :
    Calls Try.prog 12 #[.int .i64 (n : Int), .slice A m c, .bool true] w fun e w' => ((∀ r ∈ rs, 2 ≤ r.xs.length) → JoinedYes w n (seqOf true rs) e w') ∧ ((¬ ∀ r ∈ rs, 2 ≤ r.xs.length) → JoinedNo w e w') := by
  have c1 := Lib.hid (new_ok n w hn)
  have HL := Lib.hid hl
  have HRL := Lib.hid hrl
  clear hl hrl
  obtain ⟨Q, hQ⟩ : ∃ Q : Ending → World → Prop, Q = fun e w' => ((∀ r ∈ rs, 2 ≤ r.xs.length) → JoinedYes w n (seqOf true rs) e w') ∧ ((¬ ∀ r ∈ rs, 2 ≤ r.xs.length) → JoinedNo w e w') := ⟨_, rfl⟩
  rw [← hQ]
  have HQ := Lib.hid hQ
  clear hQ
  go_enter Try.func12, Try.ntmps12
  go_wp2_with fail
  refine c1.out.mono ?_
  rintro e w1 ⟨p, U, cu, S, cs, rfl, hu, hb⟩
  have HU := Lib.hid hu
  have HB := Lib.hid hb
  clear hu hb c1
  go_wp2
  go_loopw [10] (fun i wr => ∃ (k : Nat) (R : Nat → Nat), k ≤ m ∧ i = .int .i64 (k : Int) ∧ Hid (UG wr w.heap.size p n U cu S cs R) ∧ Hid (Gen n ((seqOf true rs).take k) R) ∧ Hid (Below w.heap.size w wr) ∧ Hid (∀ j r q, j < k → rs[q]? = some r → (q + j + 1 = m) → 2 ≤ r.xs.length)) (fun i _ => m - (intOf i).toNat)
  case atStart => exact ⟨0, id, Nat.zero_le _, rfl, HU.out, Gen.start n, HB.out, fun j r q hj => by omega⟩
  case round =>
    clear HU HB
    obtain ⟨k, R, hk, rfl, HU, HG, HB, HS⟩ := hrel
    have hsz := HB.out.size
    by_cases hlt : k < m
    · have hlz : (k : Int) < m := by omega
      have hl60 : (k : Int) < 60 := by omega
      have hm60 : ¬ (60 : Int) < m := by omega
      obtain ⟨q, hq⟩ : ∃ q : Nat, q + k + 1 = m := ⟨m - 1 - k, by omega⟩
      have hqm : q < m := by omega
      have hqz : (q : Int) < m := by omega
      have hqe : (m : Int) - 1 - (k : Int) = q := by omega
      have HQ2 := Lib.hid hq
      obtain ⟨b, off, r, rfl, hbb, hr, hc, hrow⟩ := hA.at_k (show q < rs.length by rw [HL.out]; exact hqm)
      rw [← HB.out.cell (p := ⟨b, off + q, none⟩) hbb] at hc
      have HR := Lib.hid hr
      have hlr := HRL.out r (List.mem_of_getElem? hr)
      obtain ⟨lr, hlr'⟩ : ∃ lr, lr = r.xs.length := ⟨_, rfl⟩
      rw [← hlr'] at hc hlr
      have HLR := Lib.hid hlr'
      clear hq
      clear hr hlr'
      by_cases h2 : 2 ≤ lr
      · obtain ⟨b2, off2, a, d, hat, hb2, hpo, ha, hd⟩ := pair_cells hrow (by rw [← HLR.out]; exact h2)
        rw [hat] at hc
        rw [← HB.out.cell (p := ⟨b2, off2, none⟩) hb2] at ha
        rw [← HB.out.cell (p := ⟨b2, off2 + 1, none⟩) hb2] at hd
        have hl0 : (0 : Int) < lr := by omega
        have hl1 : (1 : Int) < lr := by omega
        have hl2 : ¬ (lr : Int) < 2 := by omega
        have HT : Hid ((seqOf true rs).take (k + 1) = (seqOf true rs).take k ++ [(d, a)]) := take_at (by
          rw [seqOf_at HR.out (by simp only [if_true]; rw [HL.out]; exact HQ2.out), hpo]; rfl)
        have cj := Lib.hid (joinG d a HU.out HG.out)
        clear hat hpo hrow hA
        go_wp2_with (go_at_call 17; refine cj.out.mono ?_; rintro e w4 ⟨t, R', rfl, hu', hg', hk', hroots, _⟩; have HU' := Lib.hid hu'; have HG' := Lib.hid hg'; have HK' := Lib.hid hk'; clear hu' hg' hk' hroots)
        have HB' : Hid (Below w.heap.size w w4) := HB.out.trans (HU.out.toBelow HK'.out (Nat.le_refl _) hsz)
        go_roundw
        case rel =>
          refine ⟨k + 1, R', by omega, by go_num, HU'.out, ?_, HB'.out, ?_⟩
          · show Gen _ _ _
            rw [HT.out]; exact HG'.out
          · intro j s q' hj hs hi
            by_cases hjk : j < k
            · exact HS.out j s q' hjk hs hi
            · have e1 : q' = q := by have := HQ2.out; omega
              subst e1
              have e2 := HR.out
              rw [hs] at e2
              injection e2 with e2
              rw [e2, ← HLR.out]; exact h2
        case measure => simp [intOf]; omega
      · have hl2 : (lr : Int) < 2 := by omega
        have HF : Hid (Q (.returned (.tuple #[.pointer (some ⟨p, 0, none⟩), .bool false])) wr) := by
          show Q _ _
          rw [HQ.out]
          exact ⟨fun h => absurd (h r (List.mem_of_getElem? HR.out)) (by rw [← HLR.out]; exact h2), fun _ => ⟨_, rfl, HB.out⟩⟩
        clear hA hrow
        go_wp2
        exact HF.out
    · have hkm : k = m := by omega
      subst hkm
      have hlz : ¬ (k : Int) < k := by omega
      have HF : Hid (Q (.returned (.tuple #[.pointer (some ⟨p, 0, none⟩), .bool true])) wr) := by
        show Q _ _
        rw [HQ.out]
        have hall : ∀ r ∈ rs, 2 ≤ r.xs.length := fun r hr => by
          obtain ⟨q, hq⟩ := List.getElem?_of_mem hr
          have hql : q < k := by have := (List.getElem?_eq_some_iff.1 hq).1; rw [HL.out] at this; exact this
          exact HS.out (k - 1 - q) r q (by omega) hq (by omega)
        have hg := HG.out
        rw [List.take_of_length_le (by rw [seqOf_len, HL.out]; omega)] at hg
        exact ⟨fun _ => ⟨p, U, cu, S, cs, R, rfl, HU.out, hg, HB.out⟩, fun h => absurd hall h⟩
      clear hA
      go_wp2
      exact HF.out

end Go.Proofs.Ytopjdplbjfaldaa
