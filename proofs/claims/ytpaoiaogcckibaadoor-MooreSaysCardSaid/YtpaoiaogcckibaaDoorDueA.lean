/- What due.Check, cmp.Compare and the closures that compare jobs answer. Conditions: lengths are such that slices can have. -/
import Derived.Test.YtpaoiaogcckibaaDoorCompare
namespace Go.Proofs.YtpaoiaogcckibaaDoor
open Go.RowKit

/-- what is wrong with jobs, one behind the other -/
def jobErrFrom : List Job → Int
  | [] => 0
  | p :: l => if inB p.time 1 1000 = true ∧ inB p.due 0 1000 = true ∧ inB p.weight 0 1000 = true then jobErrFrom l else 1
def jobErr (l : List Job) : Int := if 16 < l.length then 4 else jobErrFrom l

set_option maxHeartbeats 400000 in
theorem dueCheck (A : Option Addr) (n c : Nat) (l : List Job) (w : World) (hA : Cells w w.heap.size A (jobs l)) (hn : l.length = n) (hm : n ≤ 9223372036854775807) :
    Calls Tryd.prog 39 #[.slice A n c] w fun e w' => e = .returned (errV (jobErr l)) ∧ Below w.heap.size w w' := by
  have HN := Lib.hid hn
  by_cases hf : 16 < n
  · have hz : (16 : Int) < n := by omega
    have HE : Hid (errV (jobErr l) = .iface 91 (.int .i64 4)) := by show _ = _; unfold jobErr; rw [if_pos (by omega)]; rfl
    clear hn hA
    go_enter Tryd.func39, Tryd.ntmps39
    go_wp2
    go_ret
    exact ⟨by rw [HE.out]; rfl, Below.refl _ _⟩
  · have hz : ¬ (16 : Int) < n := by omega
    have HP : Hid (jobErr l = jobErrFrom l) := by show _ = _; unfold jobErr; rw [if_neg (by omega)]
    clear hn
    go_enter Tryd.func39, Tryd.ntmps39
    go_wp2
    go_loopw [11] (fun i wr => ∃ k : Nat, k ≤ n ∧ i = .int .i64 k ∧ Below w.heap.size w wr ∧ Hid (jobErrFrom (l.drop k) = jobErrFrom l)) (fun i _ => n - (intOf i).toNat)
    case atStart => exact ⟨0, Nat.zero_le _, rfl, Below.refl _ _, rfl⟩
    case round =>
      obtain ⟨k, hk, rfl, hb, HI⟩ := hrel
      by_cases hlt : k < n
      · have hlz : (k : Int) < n := by omega
        obtain ⟨b, off, x, y, z, rfl, hbb, hx, hc0, hc1, hc2⟩ := jobs_at hA (show k < l.length by rw [HN.out]; exact hlt)
        have HX := Lib.hid (drop_at hx)
        rw [← hb.cell hbb] at hc0 hc1 hc2
        have hsz := hb.size
        clear hx hA
        have HS : Hid (inB x 1 1000 = true → inB y 0 1000 = true → inB z 0 1000 = true → jobErrFrom (l.drop (k + 1)) = jobErrFrom l) := fun e1 e2 e3 => by
          rw [← HI.out, HX.out]; simp [jobErrFrom, e1, e2, e3]
        have HT : Hid (¬ (inB x 1 1000 = true ∧ inB y 0 1000 = true ∧ inB z 0 1000 = true) → errV (jobErr l) = .iface 91 (.int .i64 1)) := fun e1 => by
          rw [HP.out, ← HI.out, HX.out]; simp only [jobErrFrom]; rw [if_neg e1]; rfl
        clear HI HX HP
        cases h1 : inB x 1 1000 with
        | false =>
          go_wp2_with (go_at_call 73; refine (within _ _ _ _).mono ?_; rintro e w' ⟨rfl, rfl⟩)
          go_ret
          exact ⟨congrArg _ (HT.out (by simp [h1])).symm, hb.alloc hsz _⟩
        | true =>
          cases h2 : inB y 0 1000 with
          | false =>
            go_wp2_with (go_at_call 73; refine (within _ _ _ _).mono ?_; rintro e w' ⟨rfl, rfl⟩)
            go_ret
            exact ⟨congrArg _ (HT.out (by simp [h2])).symm, hb.alloc hsz _⟩
          | true =>
            cases h3 : inB z 0 1000 with
            | false =>
              go_wp2_with (go_at_call 73; refine (within _ _ _ _).mono ?_; rintro e w' ⟨rfl, rfl⟩)
              go_ret
              exact ⟨congrArg _ (HT.out (by simp [h3])).symm, hb.alloc hsz _⟩
            | true =>
              go_wp2_with (go_at_call 73; refine (within _ _ _ _).mono ?_; rintro e w' ⟨rfl, rfl⟩)
              go_roundw
              case rel => exact ⟨k + 1, by omega, by go_num, hb.alloc hsz _, HS.out h1 h2 h3⟩
              case measure => simp [intOf]; omega
      · have hlz : ¬ (k : Int) < n := by omega
        have HE : Hid (errV (jobErr l) = .nilIface) := by
          show _ = _
          rw [HP.out, ← HI.out, drop_end (by rw [HN.out]; omega)]; rfl
        go_wp2
        go_ret
        exact ⟨congrArg _ HE.out.symm, hb⟩

theorem jobErrFrom_ok : ∀ (l : List Job), jobErrFrom l = 0 → ∀ p ∈ l, (1 ≤ p.time ∧ p.time ≤ 1000) ∧ (0 ≤ p.due ∧ p.due ≤ 1000) ∧ (0 ≤ p.weight ∧ p.weight ≤ 1000) := by
  intro l
  induction l with
  | nil => intro _ p hp; simp at hp
  | cons q l ih =>
    intro h p hp
    simp only [jobErrFrom] at h
    split at h
    · next e =>
      rcases List.mem_cons.1 hp with rfl | hp
      · exact ⟨of_inB e.1, of_inB e.2.1, of_inB e.2.2⟩
      · exact ih h p hp
    · simp at h
theorem jobErr_ok {l : List Job} (h : jobErr l = 0) : l.length ≤ 16 ∧ ∀ p ∈ l, (1 ≤ p.time ∧ p.time ≤ 1000) ∧ (0 ≤ p.due ∧ p.due ≤ 1000) ∧ (0 ≤ p.weight ∧ p.weight ≤ 1000) := by
  unfold jobErr at h
  split at h
  · simp at h
  · exact ⟨by omega, jobErrFrom_ok l h⟩
theorem jobErr_of {l : List Job} (h : l.length ≤ 16) (hp : ∀ p ∈ l, (1 ≤ p.time ∧ p.time ≤ 1000) ∧ (0 ≤ p.due ∧ p.due ≤ 1000) ∧ (0 ≤ p.weight ∧ p.weight ≤ 1000)) : jobErr l = 0 := by
  unfold jobErr
  rw [if_neg (by omega)]
  clear h
  induction l with
  | nil => rfl
  | cons p l ih =>
    have h0 := hp p (by simp)
    simp only [jobErrFrom]
    rw [if_pos ⟨inB_true h0.1, inB_true h0.2.1, inB_true h0.2.2⟩]
    exact ih fun q hq => hp q (by simp [hq])

def jobAt (l : List Job) (i : Int) : Job := l.getD i.toNat ⟨1, 0, 0⟩
def dueC (l : List Job) (i j : Int) : Int := cmpI (jobAt l i).due (jobAt l j).due

set_option maxHeartbeats 1000000 in
/-- the closure of due.Order: it reads the boxed jobs -/
theorem dueLess (A : Option Addr) (n c bx : Nat) (l : List Job) (x y : Int) (w : World) (hA : Cells w w.heap.size A (jobs l)) (hn : l.length = n) (hbx : w.cell? ⟨bx, 0, none⟩ = some (.slice A n c))
    (hx0 : 0 ≤ x) (hx1 : x < n) (hy0 : 0 ≤ y) (hy1 : y < n) (hm : n ≤ 9223372036854775807) :
    Calls Tryd.prog 85 #[.int .i64 x, .int .i64 y, .pointer (some ⟨bx, 0, none⟩)] w fun e w' => e = .returned (.int .i64 (dueC l x y)) ∧ ∃ q, w' = w.drewN q := by
  obtain ⟨i, rfl⟩ : ∃ i : Nat, x = i := ⟨x.toNat, by omega⟩
  obtain ⟨j, rfl⟩ : ∃ j : Nat, y = j := ⟨y.toNat, by omega⟩
  obtain ⟨b, off, t1, d1, v1, rfl, _, h1, _, hc1, _⟩ := jobs_at hA (show i < l.length by omega)
  obtain ⟨b', off', t2, d2, v2, hbb, _, h2, _, hc2, _⟩ := jobs_at hA (show j < l.length by omega)
  simp only [Option.some.injEq, Addr.mk.injEq, and_true] at hbb
  obtain ⟨rfl, rfl⟩ := hbb
  have HC : Hid (dueC l i j = cmpI d1 d2) := by
    show _ = _
    simp [dueC, jobAt, h1, h2]
  clear h1 h2 hA hn
  go_enter Tryd.func85, Tryd.ntmps85
  go_wp2
  go_quiet ((go_at_call 84; exact quiet_l (compare_ _ _ _)))
  go_wp2
  go_ret
  exact ⟨ret_int HC.out.symm, nq, rfl⟩
end Go.Proofs.YtpaoiaogcckibaaDoor
