/- The closed fact of the laws on light ways. Conditions: none. -/
import Derived.Test.YtdiinphojjpadaaLeast
import Derived.Test.YtdiinphojjpadaaTriangle
namespace Go.Proofs.Ytdiinphojjpadaa
open Go.RowKit
theorem least_ (x : Int) (A : Option Addr) (n c : Nat) (a b : Int) (l : List Edge) (w : World) (hA : Cells w w.heap.size A (edges l)) (hn : l.length = n) (hm : n ≤ 9223372036854775807) :
    Calls Try.prog 15 #[graphV x A n c, .int .i64 a, .int .i64 b] w fun e w' => ∃ v er, e = .returned (.tuple #[.int .i64 v, errV er]) ∧ LeastAns x l a b v er ∧ Below w.heap.size w w' := by
  by_cases he : leastErr x l a b = 0
  · obtain ⟨hg, ha, hb⟩ := leastErr_ok he
    obtain ⟨⟨hx0, _⟩, _, _⟩ := graphErr_ok hg
    obtain ⟨N, rfl⟩ : ∃ N : Nat, x = N := ⟨x.toNat, by omega⟩
    obtain ⟨a, rfl⟩ : ∃ k : Nat, a = k := ⟨a.toNat, by omega⟩
    obtain ⟨b, rfl⟩ : ∃ k : Nat, b = k := ⟨b.toNat, by omega⟩
    refine (least_ok N A n c a b l w hA hn hg (by omega) (by omega)).mono ?_
    rintro e w' ⟨h | h, hb'⟩
    · obtain ⟨v, rfl, hv⟩ := h
      exact ⟨v, 0, by rw [errV_zero], Or.inr (Or.inl ⟨he, rfl, hv⟩), hb'⟩
    · obtain ⟨rfl, hv⟩ := h
      exact ⟨0, 5, by rw [errV_bad (by decide)], Or.inr (Or.inr ⟨he, rfl, rfl, hv⟩), hb'⟩
  · refine (least_bad x A n c a b l w hA hn hm he).mono ?_
    rintro e w' ⟨rfl, hb'⟩
    exact ⟨0, leastErr x l a b, rfl, Or.inl ⟨he, rfl, rfl⟩, hb'⟩
theorem tri_light {v er : Int} (h : LeastAns 3 triE 0 1 v er) : er = 0 ∧ v = 2 := by
  have h1 : By 3 triE 2 0 2 := (Conn.pair (a := 2) (b := 0) (by omega) (by omega) (by simp [lightE, triE])).symm
  have h2 : By 3 triE 2 2 1 := (Conn.pair (a := 1) (b := 2) (by omega) (by omega) (by simp [lightE, triE])).symm
  obtain ⟨s1, s2, s3⟩ := h.way (m := 2) (by decide) (by omega) (h1.trans h2)
  obtain ⟨_, t⟩ := h.ok s1
  refine ⟨s1, ?_⟩
  apply Classical.byContradiction
  intro hne
  have h3 := t.2.1.up (m' := 1) (by omega)
  have h4 := h3 (fun x => if x = 0 then 0 else 1) fun a b _ _ hm => by
    obtain ⟨e, he, h5, h6, h7⟩ := mem_lightE.1 hm
    simp only [triE, List.mem_cons, List.not_mem_nil, or_false] at he
    rcases he with rfl | rfl | rfl
    · simp at h5
    · simp only at h6 h7
      have : a = 1 := by omega
      have : b = 2 := by omega
      subst_vars
      simp
    · simp at h5
  simp at h4
set_option maxHeartbeats 1000000 in
theorem narrowFact (w : World) : Calls Try.prog 14 #[] w fun e w' => e = .returned (.bool true) ∧ Below w.heap.size w w' := by
  go_enter Try.func14, Try.ntmps14
  go_wp2_with fail
  refine (triangle_ w).mono ?_
  rintro e w1 ⟨rfl, hc1, hb1⟩
  have c2 := Lib.hid (least_ 3 (some ⟨w.heap.size + 1, 0, none⟩) 3 3 0 1 triE w1 hc1 rfl (by omega))
  clear hc1
  go_wp2_with fail
  refine c2.out.mono ?_
  rintro e w2 ⟨v, er, rfl, hs, hb2⟩
  obtain ⟨rfl, rfl⟩ := tri_light hs
  rw [errV_zero]
  go_wp2
  go_ret
  exact ⟨rfl, hb1.trans (hb2.mono hb1.size)⟩
end Go.Proofs.Ytdiinphojjpadaa
