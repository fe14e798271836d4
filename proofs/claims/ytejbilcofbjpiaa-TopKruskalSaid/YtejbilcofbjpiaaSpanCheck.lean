/- What span.Check answers: the number of what is wrong with a graph. Conditions: lengths are such that slices can have. -/
import Derived.Test.YtejbilcofbjpiaaWithin
import Derived.Test.YtejbilcofbjpiaaCore
namespace Go.Proofs.Ytejbilcofbjpiaa
open Go.RowKit
/-- what is wrong with edges between N nodes, one behind the other -/
def edgeErr (N : Int) : List Edge → Int
  | [] => 0
  | e :: l => if inB e.a 0 (N - 1) = true ∧ inB e.b 0 (N - 1) = true ∧ inB e.weight 0 1000 = true then edgeErr N l else 1
def graphErr (N : Int) (l : List Edge) : Int := if inB N 0 16 = true then (if 40 < l.length then 4 else edgeErr N l) else 1
/-- a graph, as a value -/
def graphV (N : Int) (A : Option Addr) (n c : Nat) : Value := .agg #[.int .i64 N, .slice A n c]
set_option maxHeartbeats 1000000 in
theorem spanCheck (N : Int) (A : Option Addr) (n c : Nat) (l : List Edge) (w : World) (hA : Cells w w.heap.size A (edges l)) (hn : l.length = n) (hm : n ≤ 9223372036854775807) :
    Calls Try.prog 10 #[graphV N A n c] w fun e w' => e = .returned (errV (graphErr N l)) ∧ Below w.heap.size w w' := by
  have HN := Lib.hid hn
  unfold graphV
  cases h0 : inB N 0 16 with
  | false =>
    have HE : Hid (errV (graphErr N l) = .iface 54 (.int .i64 1)) := by show _ = _; unfold graphErr; rw [if_neg (by simp [h0])]; rfl
    have H0 := Lib.hid h0
    clear hn hA h0
    go_enter Try.func10, Try.ntmps10
    go_wp2_with (go_at_call 21; refine (within _ _ _ _).mono ?_; rintro e w' ⟨rfl, rfl⟩; rw [H0.out])
    go_ret
    exact ⟨congrArg _ HE.out.symm, (Below.refl _ _).alloc (Nat.le_refl _) _⟩
  | true =>
    have H0 := Lib.hid h0
    obtain ⟨hN0, hN1⟩ := of_inB h0
    by_cases hf : 40 < n
    · have hz : (40 : Int) < n := by omega
      have HE : Hid (errV (graphErr N l) = .iface 54 (.int .i64 4)) := by show _ = _; unfold graphErr; rw [if_pos h0, if_pos (by omega)]; rfl
      clear hn hA h0
      go_enter Try.func10, Try.ntmps10
      go_wp2_with (go_at_call 21; refine (within _ _ _ _).mono ?_; rintro e w' ⟨rfl, rfl⟩; rw [H0.out])
      go_ret
      exact ⟨congrArg _ HE.out.symm, (Below.refl _ _).alloc (Nat.le_refl _) _⟩
    · have hz : ¬ (40 : Int) < n := by omega
      have HP : Hid (graphErr N l = edgeErr N l) := by show _ = _; unfold graphErr; rw [if_pos h0, if_neg (by omega)]
      have HR0 : Row (w.alloc (.cells #[.int .i64 N, .slice A n c] 24)) w.heap.size 24 [.int .i64 N, .slice A n c] := Row.new _ _ _
      clear hn h0
      go_enter Try.func10, Try.ntmps10
      go_wp2_with (go_at_call 21; refine (within _ _ _ _).mono ?_; rintro e w' ⟨rfl, rfl⟩; rw [H0.out])
      go_loopw [18] (fun i wr => ∃ k : Nat, k ≤ n ∧ i = .int .i64 k ∧ Below w.heap.size w wr ∧ Hid (Row wr w.heap.size 24 [.int .i64 N, .slice A n c]) ∧ Hid (edgeErr N (l.drop k) = edgeErr N l)) (fun i _ => n - (intOf i).toNat)
      case atStart => exact ⟨0, Nat.zero_le _, rfl, (Below.refl _ _).alloc (Nat.le_refl _) _, HR0, rfl⟩
      case round =>
        clear HR0
        obtain ⟨k, hk, rfl, hb, HR, HI⟩ := hrel
        by_cases hlt : k < n
        · have hlz : (k : Int) < n := by omega
          obtain ⟨b, off, x, y, z, rfl, hbb, hx, hc0, hc1, hc2⟩ := edges_at hA (show k < l.length by rw [HN.out]; exact hlt)
          have HX := Lib.hid (drop_at hx)
          rw [← hb.cell hbb] at hc0 hc1 hc2
          have hsz := hb.size
          have hg0 : ∀ O, (wr.alloc O).cell? ⟨w.heap.size, 0, none⟩ = some (.int .i64 N) := fun O => (HR.out.alloc O).cell 0
          clear hx hA
          have HS : Hid (inB x 0 (N - 1) = true → inB y 0 (N - 1) = true → inB z 0 1000 = true → edgeErr N (l.drop (k + 1)) = edgeErr N l) := fun e1 e2 e3 => by
            rw [← HI.out, HX.out]; simp [edgeErr, e1, e2, e3]
          have HT : Hid (¬ (inB x 0 (N - 1) = true ∧ inB y 0 (N - 1) = true ∧ inB z 0 1000 = true) → errV (graphErr N l) = .iface 54 (.int .i64 1)) := fun e1 => by
            rw [HP.out, ← HI.out, HX.out]; simp only [edgeErr]; rw [if_neg e1]; rfl
          clear HI HX HP
          cases h1 : inB x 0 (N - 1) with
          | false =>
            go_wp2_with (go_at_call 21; refine (within _ _ _ _).mono ?_; rintro e w' ⟨rfl, rfl⟩)
            go_ret
            exact ⟨congrArg _ (HT.out (by simp [h1])).symm, hb.alloc hsz _⟩
          | true =>
            cases h2 : inB y 0 (N - 1) with
            | false =>
              go_wp2_with (go_at_call 21; refine (within _ _ _ _).mono ?_; rintro e w' ⟨rfl, rfl⟩)
              go_ret
              exact ⟨congrArg _ (HT.out (by simp [h2])).symm, hb.alloc hsz _⟩
            | true =>
              cases h3 : inB z 0 1000 with
              | false =>
                go_wp2_with (go_at_call 21; refine (within _ _ _ _).mono ?_; rintro e w' ⟨rfl, rfl⟩)
                go_ret
                exact ⟨congrArg _ (HT.out (by simp [h3])).symm, hb.alloc hsz _⟩
              | true =>
                go_wp2_with (go_at_call 21; refine (within _ _ _ _).mono ?_; rintro e w' ⟨rfl, rfl⟩)
                go_roundw
                case rel => exact ⟨k + 1, by omega, by go_num, hb.alloc hsz _, HR.out.alloc _, HS.out h1 h2 h3⟩
                case measure => simp [intOf]; omega
        · have hlz : ¬ (k : Int) < n := by omega
          have HE : Hid (errV (graphErr N l) = .nilIface) := by
            show _ = _
            rw [HP.out, ← HI.out, drop_end (by rw [HN.out]; omega)]; rfl
          go_wp2
          go_ret
          exact ⟨congrArg _ HE.out.symm, hb⟩

theorem edgeErr_ok (N : Int) : ∀ (l : List Edge), edgeErr N l = 0 → ∀ p ∈ l, (0 ≤ p.a ∧ p.a ≤ N - 1) ∧ (0 ≤ p.b ∧ p.b ≤ N - 1) ∧ (0 ≤ p.weight ∧ p.weight ≤ 1000) := by
  intro l
  induction l with
  | nil => intro _ p hp; simp at hp
  | cons q l ih =>
    intro h p hp
    simp only [edgeErr] at h
    split at h
    · next e =>
      rcases List.mem_cons.1 hp with rfl | hp
      · exact ⟨of_inB e.1, of_inB e.2.1, of_inB e.2.2⟩
      · exact ih h p hp
    · simp at h
theorem edgeErr_of {N : Int} {l : List Edge} (hp : ∀ p ∈ l, (0 ≤ p.a ∧ p.a ≤ N - 1) ∧ (0 ≤ p.b ∧ p.b ≤ N - 1) ∧ (0 ≤ p.weight ∧ p.weight ≤ 1000)) : edgeErr N l = 0 := by
  induction l with
  | nil => rfl
  | cons p l ih =>
    have h0 := hp p (by simp)
    simp only [edgeErr]
    rw [if_pos ⟨inB_true h0.1, inB_true h0.2.1, inB_true h0.2.2⟩]
    exact ih fun q hq => hp q (by simp [hq])
theorem graphErr_ok {N : Int} {l : List Edge} (h : graphErr N l = 0) : (0 ≤ N ∧ N ≤ 16) ∧ l.length ≤ 40 ∧ ∀ p ∈ l, (0 ≤ p.a ∧ p.a ≤ N - 1) ∧ (0 ≤ p.b ∧ p.b ≤ N - 1) ∧ (0 ≤ p.weight ∧ p.weight ≤ 1000) := by
  unfold graphErr at h
  split at h
  · next h0 =>
    split at h
    · simp at h
    · exact ⟨of_inB h0, by omega, edgeErr_ok N l h⟩
  · simp at h
theorem graphErr_of {N : Int} {l : List Edge} (h0 : 0 ≤ N ∧ N ≤ 16) (h1 : l.length ≤ 40) (hp : ∀ p ∈ l, (0 ≤ p.a ∧ p.a ≤ N - 1) ∧ (0 ≤ p.b ∧ p.b ≤ N - 1) ∧ (0 ≤ p.weight ∧ p.weight ≤ 1000)) : graphErr N l = 0 := by
  unfold graphErr
  rw [if_pos (inB_true h0), if_neg (by omega)]
  exact edgeErr_of hp
end Go.Proofs.Ytejbilcofbjpiaa
