/- The walk of MooreMost. Conditions: lengths are such that slices can have. -/
import Derived.Test.YtdiinphojjpadaaMooreFact
namespace Go.Proofs.Ytdiinphojjpadaa
open Go.RowKit
set_option maxHeartbeats 4000000 in
set_option maxRecDepth 100000 in
theorem mooreMostW (A : Option Addr) (n c : Nat) (A' : Option Addr) (m c' : Nat) (l : List Job) (o : List Int) (w : World) (hA : Cells w w.heap.size A (jobs l)) (hn : l.length = n) (hm : n * 24 ≤ 140737488351232)
    (_ : ∀ x ∈ l, InJob x) (hA' : Cells w w.heap.size A' (ints o)) (hn' : o.length = m) (hm' : m * 8 ≤ 140737488351232) (_ : ∀ x ∈ o, -9223372036854775808 ≤ x ∧ x ≤ 9223372036854775807) :
    Calls Try.prog 9 #[.slice A n c, .slice A' m c'] w fun e w' => e = .returned (.bool true) ∧ Below w.heap.size w w' := by
  have HN := Lib.hid hn
  have HN' := Lib.hid hn'
  have c0 := Lib.hid (mooreFact w)
  clear hn hn'
  go_enter Try.func9, Try.ntmps9
  go_wp2_with fail
  refine c0.out.mono ?_
  rintro e w1 ⟨rfl, hb1⟩
  have HB1 := Lib.hid hb1
  have hsz1 := hb1.size
  have c2 := Lib.hid (pick_any A n c l w1 (hA.step hb1) HN.out (by omega))
  clear hb1 c0
  go_wp2_with fail
  refine c2.out.mono ?_
  rintro e w2 ⟨S, V, cv, er, rfl, her, hz, hok, hown, hb2⟩
  have HB2 : Hid (Below w.heap.size w w2) := HB1.out.trans (hb2.mono hsz1)
  have hsz2 := HB2.out.size
  clear c2 hb2 hsz1
  by_cases h0 : er = 0
  · subst h0
    obtain ⟨hr, ys, hio, hpw, hp⟩ := hok rfl
    have hse := moore_in her.symm hio hp hr
    have hsn : S.length ≤ n := by
      have := rising_len (moore_sub hio hp) hr
      rw [HN.out] at this; exact this
    have HM : Hid (∀ set : List Int, subErr l set = 0 → FeasJ (set.map (jobAt l)) → set.length ≤ S.length) := fun set h1 h2 => moore_most hio hp h1 h2
    obtain ⟨sl, hsl⟩ : ∃ z, z = S.length := ⟨_, rfl⟩
    have HSL := Lib.hid hsl
    rw [← hsl] at hown hsn ⊢
    have c3 := inTime_ A n c V sl cv l S w2 ((hA.below HB2.out (Nat.le_refl _)).more hsz2) HN.out (by omega) (hown.own (by omega)) hsl.symm (by omega)
    have C3 := Lib.hid c3
    have HSE := Lib.hid hse
    rw [errV_zero]
    clear hz hok her hr hio hpw hp hse hown c3 hsl
    go_wp2_with fail
    refine C3.out.mono ?_
    rintro e w3 ⟨h | ⟨_, b, hb, rfl⟩, hb3⟩
    · exact absurd HSE.out.1 h.1
    · have hbt : b = true := hb.2 HSE.out.2
      subst hbt
      have HB3 : Hid (Below w.heap.size w w3) := HB2.out.trans (hb3.mono hsz2)
      have hsz3 := HB3.out.size
      have c4 := Lib.hid (inTime_ A n c A' m c' l o w3 ((hA.below HB3.out (Nat.le_refl _)).more hsz3) HN.out (by omega) ((hA'.below HB3.out (Nat.le_refl _)).more hsz3) HN'.out (by omega))
      clear hb hb3 C3 HB2 hsz2
      go_wp2_with fail
      refine c4.out.mono ?_
      rintro e w4 ⟨⟨h4, rfl⟩ | ⟨h4, b4, hb4', rfl⟩, hb4⟩
      · have HB4 : Hid (Below w.heap.size w w4) := HB3.out.trans (hb4.mono hsz3)
        clear h4 hb4 c4
        go_wp2
        go_ret
        exact ⟨rfl, HB4.out⟩
      · have HB4 : Hid (Below w.heap.size w w4) := HB3.out.trans (hb4.mono hsz3)
        cases b4 with
        | false =>
          clear h4 hb4 hb4' c4
          go_wp2
          go_ret
          exact ⟨rfl, HB4.out⟩
        | true =>
          have hle : m ≤ sl := by
            have := HM.out o h4 (hb4'.1 rfl)
            rw [HN'.out, ← HSL.out] at this; exact this
          have hlz : (m : Int) ≤ (sl : Int) := by omega
          clear h4 hb4 hb4' c4
          go_wp2
          go_ret
          exact ⟨rfl, HB4.out⟩
  · have hS := hz h0
    subst hS
    rw [errV_bad h0]
    clear hz hok her hown
    go_wp2
    go_ret
    exact ⟨rfl, HB2.out⟩
end Go.Proofs.Ytdiinphojjpadaa
