/- The closed fact of Moore's laws; moore.Pick whatever the jobs. Conditions: lengths are such that slices can have. -/
import Derived.Test.YtdiinphojjpadaaMoorePick
import Derived.Test.YtdiinphojjpadaaMooreIn
import Derived.Test.YtdiinphojjpadaaInts
namespace Go.Proofs.Ytdiinphojjpadaa
open Go.RowKit
def threeJ : List Job := [⟨5, 5, 0⟩, ⟨2, 6, 0⟩, ⟨2, 6, 0⟩]
theorem threeJ_picked {ys S : List Int} (ho : IsOrd 3 ys) (h : Picks (jobAt threeJ) ys 3 S) (hr : S.Pairwise (· < ·)) : S = [1, 2] := by
  have e0 : jobAt threeJ 0 = ⟨5, 5, 0⟩ := rfl
  have e1 : jobAt threeJ 1 = ⟨2, 6, 0⟩ := rfl
  have e2 : jobAt threeJ 2 = ⟨2, 6, 0⟩ := rfl
  have hm := moore_sub (l := threeJ) ho h
  have hin : ∀ i ∈ S, i = 0 ∨ i = 1 ∨ i = 2 := fun i hi => by
    have := hm i hi
    simp [threeJ] at this; omega
  have hf := h.feas
  have h2 : 2 ≤ S.length := by
    have h3 := h
    rw [show (3 : Nat) = ys.length from ho.1.symm] at h3
    refine h3.most (F := [1, 2]) (by decide) (fun i hi => ho.full i ?_ ?_) ?_
    · simp at hi; omega
    · simp at hi; omega
    · intro j hj
      simp only [List.map_cons, List.map_nil, e1, e2, List.mem_cons, List.not_mem_nil, or_false, or_self] at hj
      subst hj
      simp [loadJ, sumT, e1, e2]
  have key : ¬ ((0 : Int) ∈ S) := fun h0 => by
    have h4 := hf (jobAt threeJ 0) (List.mem_map.2 ⟨0, h0, rfl⟩)
    obtain ⟨b, hb, hne⟩ : ∃ b ∈ S, b ≠ 0 := by
      rcases S with _ | ⟨a, _ | ⟨b, t⟩⟩
      · simp at h2
      · simp at h2
      · rw [List.pairwise_cons] at hr
        have hab := hr.1 b (by simp)
        rcases Classical.em (a = 0) with rfl | ha
        · exact ⟨b, by simp, by omega⟩
        · exact ⟨a, by simp, ha⟩
    have hjb : jobAt threeJ b = ⟨2, 6, 0⟩ := by
      rcases hin b hb with rfl | rfl | rfl
      · exact absurd rfl hne
      · rfl
      · rfl
    have h5 := hf (jobAt threeJ b) (List.mem_map.2 ⟨b, hb, rfl⟩)
    have h6 : FeasJ ([0, b].map (jobAt threeJ)) := feas_sub (S := S) (by simp; omega) (by intro i hi; simp at hi; rcases hi with rfl | rfl <;> assumption) hf (fun i hi => by
      rcases hin i hi with rfl | rfl | rfl
      · rw [e0]; decide
      · rw [e1]; decide
      · rw [e2]; decide)
    have h7 := h6 ⟨2, 6, 0⟩ (by simp [hjb])
    simp [loadJ, sumT, e0, hjb] at h7
  rcases S with _ | ⟨a, _ | ⟨b, t⟩⟩
  · simp at h2
  · simp at h2
  · rw [List.pairwise_cons] at hr
    have hab := hr.1 b (by simp)
    have ha : a ≠ 0 := fun e => key (by simp [e])
    have hb : b ≠ 0 := fun e => key (by simp [e])
    have ha1 := hin a (by simp)
    have hb1 := hin b (by simp)
    obtain rfl : a = 1 := by omega
    obtain rfl : b = 2 := by omega
    rcases t with _ | ⟨d, t⟩
    · rfl
    · rw [List.pairwise_cons] at hr
      have := hr.2.1 d (by simp)
      have := hin d (by simp)
      omega
set_option maxHeartbeats 1000000 in
set_option maxRecDepth 100000 in
theorem mooreFact (w : World) : Calls Try.prog 28 #[] w fun e w' => e = .returned (.bool true) ∧ Below w.heap.size w w' := by
  have hn1 := (Row.new w 55 #[.int .i64 5, .int .i64 5, .int .i64 0, .int .i64 2, .int .i64 6, .int .i64 0, .int .i64 2, .int .i64 6, .int .i64 0]).cells
  have hb1 : Below w.heap.size w (w.alloc (.cells #[.int .i64 5, .int .i64 5, .int .i64 0, .int .i64 2, .int .i64 6, .int .i64 0, .int .i64 2, .int .i64 6, .int .i64 0] 55)) := (Below.refl _ _).alloc (Nat.le_refl _) _
  have HB1 := Lib.hid hb1
  have c2 := Lib.hid (pick_ok (some ⟨w.heap.size, 0, none⟩) 3 3 threeJ _ hn1 rfl (by omega) (by decide))
  clear hn1 hb1
  go_enter Try.func28, Try.ntmps28
  go_wp2_with fail
  refine c2.out.mono ?_
  rintro e w2 ⟨ys, S, V, cv, hio, _, hp, rfl, hown, hr, hb2⟩
  have hx := threeJ_picked hio hp hr
  subst hx
  have hcx := hown.own (by omega)
  have hn3 := (Row.new w2 3 #[.int .i64 1, .int .i64 2]).cells
  have hb3 : Below w2.heap.size w2 (w2.alloc (.cells #[.int .i64 1, .int .i64 2] 3)) := (Below.refl _ _).alloc (Nat.le_refl _) _
  have c6 := Lib.hid (ints_same V (some ⟨w2.heap.size, 0, none⟩) 2 cv 2 2 [1, 2] [1, 2] _ (hcx.step hb3) rfl (by omega) hn3 rfl)
  have hE : Hid (eqB [1, 2] [1, 2] = true) := eqB_true rfl
  have HB : Hid (Below w.heap.size w (w2.alloc (.cells #[.int .i64 1, .int .i64 2] 3))) := HB1.out.trans ((hb2.mono HB1.out.size).trans (hb3.mono (by have := HB1.out.size; have := hb2.size; omega)))
  clear hown hcx hn3 hb3 hp hr hio c2 hb2
  simp only [List.length_cons, List.length_nil, Nat.zero_add, Nat.reduceAdd]
  go_wp2_with fail
  refine c6.out.mono ?_
  rintro e w7 ⟨rfl, q, rfl⟩
  rw [hE.out]
  go_wp2
  go_ret
  exact ⟨rfl, below_drewN HB.out q⟩
/-- moore.Pick, whatever the jobs -/
def PickAny (w : World) (l : List Job) (e : Ending) (w' : World) : Prop :=
  ∃ (S : List Int) (V : Option Addr) (c : Nat) (er : Int), e = .returned (.tuple #[.slice V S.length c, errV er]) ∧ er = jobErr l ∧ (er ≠ 0 → S = []) ∧ (er = 0 → S.Pairwise (· < ·) ∧ ∃ ys, IsOrd l.length ys ∧ ys.Pairwise (Ahead (dueC l) id) ∧ Picks (jobAt l) ys l.length S) ∧ w'.ownsRow w.heap.size 3 1 (.slice V S.length c) S.length (ints S) ∧ Below w.heap.size w w'
theorem pick_any (A : Option Addr) (n c : Nat) (l : List Job) (w : World) (hA : Cells w w.heap.size A (jobs l)) (hn : l.length = n) (hm : n ≤ 9223372036854775807) :
    Calls Try.prog 23 #[.slice A n c] w (PickAny w l) := by
  by_cases he : jobErr l = 0
  · refine (pick_ok A n c l w hA hn hm he).mono ?_
    rintro e w' ⟨ys, S, V, cv, hio, hpw, hp, rfl, hown, hr, hb⟩
    exact ⟨S, V, cv, 0, rfl, he.symm, fun h => absurd rfl h, fun _ => ⟨hr, ys, hio, hpw, hp⟩, hown, hb⟩
  · refine (pick_bad A n c l w hA hn hm he).mono ?_
    rintro e w' ⟨rfl, hb⟩
    exact ⟨[], none, 0, jobErr l, by rw [errV_bad he]; rfl, rfl, fun _ => rfl, fun h => absurd h he, World.ownsRow_nil _ _ _ _, hb⟩
end Go.Proofs.Ytdiinphojjpadaa
