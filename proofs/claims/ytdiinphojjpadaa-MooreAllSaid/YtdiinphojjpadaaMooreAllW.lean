/- The walk of MooreAll. Conditions: lengths are such that slices can have. -/
import Derived.Test.YtdiinphojjpadaaMooreFact
namespace Go.Proofs.Ytdiinphojjpadaa
open Go.RowKit
set_option maxHeartbeats 4000000 in
set_option maxRecDepth 100000 in
theorem mooreAllW (A : Option Addr) (n c : Nat) (l : List Job) (w : World) (hA : Cells w w.heap.size A (jobs l)) (hn : l.length = n) (hm : n * 24 ≤ 140737488351232) (_ : ∀ x ∈ l, InJob x) :
    Calls Try.prog 7 #[.slice A n c] w fun e w' => e = .returned (.bool true) ∧ Below w.heap.size w w' := by
  have HN := Lib.hid hn
  have c0 := Lib.hid (mooreFact w)
  clear hn
  go_enter Try.func7, Try.ntmps7
  go_wp2_with fail
  refine c0.out.mono ?_
  rintro e w1 ⟨rfl, hb1⟩
  have HB1 := Lib.hid hb1
  have hsz1 := hb1.size
  by_cases h0 : jobErr l = 0
  · have c2 := Lib.hid (pick_ok A n c l w1 (hA.step hb1) HN.out (by omega) h0)
    have H0 := Lib.hid h0
    have hl16 : n ≤ 16 := by have := (jobErr_ok h0).1; have := HN.out; omega
    clear hb1 c0 h0
    go_wp2_with fail
    refine c2.out.mono ?_
    rintro e w2 ⟨ys, S, V, cv, hio, hpw, hp, rfl, hown, hr, hb2⟩
    have HB2 : Hid (Below w.heap.size w w2) := HB1.out.trans (hb2.mono hsz1)
    have hsz2 := HB2.out.size
    have HALL := Lib.hid (moore_all H0.out hio hp)
    obtain ⟨sl, hsl⟩ : ∃ z, z = S.length := ⟨_, rfl⟩
    rw [← hsl]
    have HSL := Lib.hid hsl
    have c3 := Lib.hid (dueOrder_ok A n c l w2 ((hA.below HB2.out (Nat.le_refl _)).more hsz2) HN.out (by omega) H0.out)
    clear hio hpw hp hown hr hb2 c2 hsl HB1 hsz1
    go_wp2_with fail
    refine c3.out.mono ?_
    rintro e w3 ⟨g, zs, rfl, hio, hpw, hown, hb3⟩
    have HB3 : Hid (Below w.heap.size w w3) := HB2.out.trans (hb3.mono hsz2)
    have hsz3 := HB3.out.size
    have hioL : IsOrd l.length zs := by rw [HN.out]; exact hio
    have HLI := Lib.hid (late_iff H0.out hioL hpw)
    have c4 := Lib.hid (dueLate_ok A n c (some ⟨g, 0, none⟩) n n l zs w3 ((hA.below HB3.out (Nat.le_refl _)).more hsz3) HN.out (by omega) (hown.own (by omega)) hio.1 (by omega) (ordErr_of H0.out hioL))
    clear hio hpw hown hb3 c3 hioL HB2 hsz2
    go_wp2_with fail
    refine c4.out.mono ?_
    rintro e w4 ⟨rfl, hb4⟩
    have HB4 : Hid (Below w.heap.size w w4) := HB3.out.trans (hb4.mono hsz3)
    obtain ⟨v, hv⟩ : ∃ z, z = lateVal l zs := ⟨_, rfl⟩
    rw [← hv]
    have HEQ : Hid (v ≤ 0 ↔ sl = n) := by
      show _ ↔ _
      rw [hv, HLI.out, HALL.out, HSL.out, HN.out]
    clear hv hb4 c4 HLI HALL HB3 hsz3
    by_cases h1 : v ≤ 0
    · have h2 : sl = n := HEQ.out.1 h1
      subst h2
      go_wp2
      go_ret
      exact ⟨rfl, HB4.out⟩
    · have h2 : ¬ sl = n := fun h => h1 (HEQ.out.2 h)
      have h3 : ((sl : Int) == (n : Int)) = false := by simp; omega
      go_wp2
      go_ret
      exact ⟨ret_bool (by simp [h1]), HB4.out⟩
  · have c2 := Lib.hid (pick_bad A n c l w1 (hA.step hb1) HN.out (by omega) h0)
    have H0 := Lib.hid h0
    clear hb1 c0 h0
    go_wp2_with fail
    refine c2.out.mono ?_
    rintro e w2 ⟨rfl, hb2⟩
    have HB2 : Hid (Below w.heap.size w w2) := HB1.out.trans (hb2.mono hsz1)
    have hsz2 := HB2.out.size
    have c3 := Lib.hid (dueOrder_bad A n c l w2 ((hA.below HB2.out (Nat.le_refl _)).more hsz2) HN.out (by omega) H0.out)
    clear hb2 c2
    go_wp2_with fail
    refine c3.out.mono ?_
    rintro e w3 ⟨rfl, hb3⟩
    have HB3 : Hid (Below w.heap.size w w3) := HB2.out.trans (hb3.mono hsz2)
    clear hb3 c3
    go_wp2
    go_ret
    exact ⟨rfl, HB3.out⟩
end Go.Proofs.Ytdiinphojjpadaa
