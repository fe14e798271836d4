/- What path.check and path.Far answer. Conditions: lengths are such that slices can have. -/
import Derived.Test.YtmcfhiddhifdcaaDoorWithin
import Derived.Test.YtmcfhiddhifdcaaDoorSearch
namespace Go.Proofs.YtmcfhiddhifdcaaDoor
open Go.RowKit
def nodesErr (N : Int) : List Int → Int
  | [] => 0
  | x :: l => if inB x 0 (N - 1) = true then nodesErr N l else 1
def pathErr (N : Int) (l : List Edge) (xs : List Int) : Int := if graphErr N l = 0 then nodesErr N xs else graphErr N l
theorem nodesErr_ok (N : Int) : ∀ (l : List Int), nodesErr N l = 0 → ∀ x ∈ l, 0 ≤ x ∧ x ≤ N - 1 := by
  intro l
  induction l with
  | nil => intro _ p hp; simp at hp
  | cons q l ih =>
    intro h p hp
    simp only [nodesErr] at h
    split at h
    · next e =>
      rcases List.mem_cons.1 hp with rfl | hp
      · exact of_inB e
      · exact ih h p hp
    · simp at h
theorem nodesErr_of {N : Int} {l : List Int} (hp : ∀ x ∈ l, 0 ≤ x ∧ x ≤ N - 1) : nodesErr N l = 0 := by
  induction l with
  | nil => rfl
  | cons p l ih =>
    simp only [nodesErr]
    rw [if_pos (inB_true (hp p (by simp)))]
    exact ih fun q hq => hp q (by simp [hq])
theorem pathErr_ok {N : Int} {l : List Edge} {xs : List Int} (h : pathErr N l xs = 0) : graphErr N l = 0 ∧ ∀ x ∈ xs, 0 ≤ x ∧ x ≤ N - 1 := by
  unfold pathErr at h
  split at h
  · next h0 => exact ⟨h0, nodesErr_ok N xs h⟩
  · next h0 => exact absurd h h0
theorem pathErr_of {N : Int} {l : List Edge} {xs : List Int} (h : graphErr N l = 0) (hx : ∀ x ∈ xs, 0 ≤ x ∧ x ≤ N - 1) : pathErr N l xs = 0 := by
  unfold pathErr
  rw [if_pos h]; exact nodesErr_of hx
theorem pathErr_none {N : Int} {l : List Edge} (xs : List Int) (h : graphErr N l ≠ 0) : pathErr N l xs = graphErr N l := if_neg h
set_option maxHeartbeats 2000000 in
theorem pathCheck (N : Int) (A : Option Addr) (n c : Nat) (l : List Edge) (A' : Option Addr) (m c' : Nat) (xs : List Int) (w : World) (hA : Cells w w.heap.size A (edges l)) (hn : l.length = n) (hm : n ≤ 9223372036854775807)
    (hA' : Cells w w.heap.size A' (ints xs)) (hn' : xs.length = m) (hm' : m ≤ 9223372036854775807) :
    Calls Tryd.prog 15 #[graphV N A n c, .slice A' m c'] w fun e w' => e = .returned (errV (pathErr N l xs)) ∧ Below w.heap.size w w' := by
  have HN' := Lib.hid hn'
  have HR0 : Row (w.alloc (.cells #[.int .i64 N, .slice A n c] 24)) w.heap.size 24 [.int .i64 N, .slice A n c] := Row.new _ _ _
  have HB0 : Below w.heap.size w (w.alloc (.cells #[.int .i64 N, .slice A n c] 24)) := (Below.refl _ _).alloc (Nat.le_refl _) _
  have c1 := spanCheck N A n c l _ (hA.step HB0) hn hm
  have hA2 := hA'.step HB0
  clear hn' hA'
  unfold graphV at c1 ⊢
  have C1 := Lib.hid c1
  by_cases h0 : graphErr N l = 0
  · rw [h0, errV_zero] at C1
    have HP : Hid (pathErr N l xs = nodesErr N xs) := if_pos h0
    obtain ⟨⟨hN0, hN1⟩, _, _⟩ := graphErr_ok h0
    have HB := Lib.hid HB0
    have HR := Lib.hid HR0
    clear h0 hn hA HB0 HR0 c1
    go_enter Tryd.func15, Tryd.ntmps15
    go_wp2_with fail
    refine C1.out.mono ?_
    rintro e w1 ⟨rfl, hb1⟩
    have HB1 : Hid (Below w.heap.size w w1) := HB.out.trans (hb1.mono (by simp))
    have HR1 := Lib.hid (HR.out.step hb1)
    have hA3 := hA2.step hb1
    clear hb1 hA2 C1 HB HR
    go_wp2
    go_loopw [15] (fun i wr => ∃ k : Nat, i = .int .i64 (k : Int) ∧ k ≤ m ∧ w1.heap.size ≤ wr.heap.size ∧ Hid (Below w1.heap.size w1 wr) ∧ Hid (nodesErr N (xs.drop k) = nodesErr N xs)) (fun i _ => m - (intOf i).toNat)
    case atStart => exact ⟨0, rfl, by omega, Nat.le_refl _, Below.refl _ _, rfl⟩
    case round =>
      obtain ⟨k, rfl, hk, hsz, HBK, HI⟩ := hrel
      have HBW : Hid (Below w.heap.size w wr) := HB1.out.trans (HBK.out.mono HB1.out.size)
      by_cases hlt : k < m
      · have hlz : (k : Int) < m := by omega
        obtain ⟨b, off, x, rfl, hbb, hx, hc0⟩ := ints_at hA3 (show k < xs.length by rw [HN'.out]; exact hlt)
        have HX := Lib.hid (drop_at hx)
        rw [← HBK.out.cell hbb] at hc0
        have hg0 := (HR1.out.step HBK.out).cell 0
        clear hx hA3
        cases h1 : inB x 0 (N - 1) with
        | false =>
          have HT : Hid (errV (pathErr N l xs) = .iface 53 (.int .i64 1)) := by
            show _ = _
            rw [HP.out, ← HI.out, HX.out]; simp only [nodesErr]; rw [if_neg (by simp [h1])]; rfl
          go_wp2_with (go_at_call 21; refine (within _ _ _ _).mono ?_; rintro e w' ⟨rfl, rfl⟩)
          go_ret
          exact ⟨congrArg _ HT.out.symm, HBW.out⟩
        | true =>
          have HS : Hid (nodesErr N (xs.drop (k + 1)) = nodesErr N xs) := by
            show _ = _
            rw [← HI.out, HX.out]; simp only [nodesErr]; rw [if_pos h1]
          go_wp2_with (go_at_call 21; refine (within _ _ _ _).mono ?_; rintro e w' ⟨rfl, rfl⟩)
          go_roundw
          case rel => exact ⟨k + 1, by go_num, by omega, hsz, HBK.out, HS.out⟩
          case measure => simp [intOf]; omega
      · have hlz : ¬ (k : Int) < m := by omega
        have HE : Hid (errV (pathErr N l xs) = .nilIface) := by
          show _ = _
          rw [HP.out, ← HI.out, drop_end (by rw [HN'.out]; omega)]; rfl
        go_wp2
        go_ret
        exact ⟨congrArg _ HE.out.symm, HBW.out⟩
  · have HF := Lib.hid (errV_bad h0)
    have HP : Hid (pathErr N l xs = graphErr N l) := if_neg h0
    have HB := Lib.hid HB0
    clear h0 hn hA HB0 HR0 c1
    go_enter Tryd.func15, Tryd.ntmps15
    go_wp2_with fail
    refine C1.out.mono ?_
    rintro e w1 ⟨rfl, hb1⟩
    rw [HF.out]
    have HB1 : Hid (Below w.heap.size w w1) := HB.out.trans (hb1.mono (by simp))
    clear hb1 hA2 C1 HB
    go_wp2
    go_ret
    exact ⟨congrArg _ (by rw [HP.out, HF.out]; rfl), HB1.out⟩

def FarOK (w : World) (N : Nat) (G : List Arc) (s : Int) (e : Ending) (w' : World) : Prop :=
  ∃ g c outs, e = .returned (.tuple #[.slice (some ⟨g, 0, none⟩) N c, .nilIface]) ∧ outs.length = N ∧ w'.ownsRow w.heap.size 3 1 (.slice (some ⟨g, 0, none⟩) N c) N (ints (outs.map (·.weight))) ∧ Short G s N (outF outs) ∧ (∀ i, i < N → outs[i]!.weight = -1 ∨ 0 ≤ outs[i]!.weight) ∧ Below w.heap.size w w'
set_option maxHeartbeats 2000000 in
theorem far_bad (N : Int) (A : Option Addr) (n c : Nat) (l : List Edge) (s : Int) (w : World) (hA : Cells w w.heap.size A (edges l)) (hn : l.length = n) (hm : n ≤ 9223372036854775807) (he : pathErr N l [s] ≠ 0) :
    Calls Tryd.prog 6 #[graphV N A n c, .int .i64 s] w fun e w' => e = .returned (.tuple #[.slice none 0 0, .iface 53 (.int .i64 (pathErr N l [s]))]) ∧ Below w.heap.size w w' := by
  have HF := Lib.hid (errV_bad he)
  have HB0 : Below w.heap.size w ((w.alloc (.cells #[.int .i64 N, .slice A n c] 24)).alloc (.cells #[.int .i64 s] 3)) := ((Below.refl _ _).alloc (Nat.le_refl _) _).alloc (by simp) _
  have hR1 := (Row.new (w.alloc (.cells #[.int .i64 N, .slice A n c] 24)) 3 #[.int .i64 s]).cells
  have e1 : (w.alloc (.cells #[.int .i64 N, .slice A n c] 24)).heap.size = w.heap.size + 1 := by simp
  rw [e1] at hR1
  have c1 := pathCheck N A n c l (some ⟨w.heap.size + 1, 0, none⟩) 1 1 [s] _ (hA.step HB0) hn hm hR1 rfl (by omega)
  unfold graphV at c1 ⊢
  have C1 := Lib.hid c1
  have HB := Lib.hid HB0
  clear he hn hA HB0 c1 hR1 e1
  go_enter Tryd.func6, Tryd.ntmps6
  go_wp2_with fail
  refine C1.out.mono ?_
  rintro e w1 ⟨rfl, hb1⟩
  rw [HF.out]
  have HB1 : Hid (Below w.heap.size w w1) := HB.out.trans (hb1.mono (by simp; omega))
  clear hb1 C1 HB
  go_wp2
  go_ret2
  exact ⟨rfl, HB1.out⟩
set_option maxHeartbeats 4000000 in
theorem far_ok (N : Nat) (A : Option Addr) (n c : Nat) (l : List Edge) (s : Nat) (w : World) (hA : Cells w w.heap.size A (edges l)) (hn : l.length = n) (hm : n ≤ 9223372036854775807) (hg : graphErr N l = 0) (hs : s < N) :
    Calls Tryd.prog 6 #[graphV N A n c, .int .i64 (s : Int)] w (FarOK w N (arcs false l) s) := by
  have hp0 := pathErr_of (xs := [(s : Int)]) hg (by intro x hx; simp at hx; omega)
  have hN : N ≤ 16 := by have := (graphErr_ok hg).1.2; omega
  have HB0 : Below w.heap.size w ((w.alloc (.cells #[.int .i64 (N : Int), .slice A n c] 24)).alloc (.cells #[.int .i64 (s : Int)] 3)) := ((Below.refl _ _).alloc (Nat.le_refl _) _).alloc (by simp) _
  have HR0 : Hid (Row ((w.alloc (.cells #[.int .i64 (N : Int), .slice A n c] 24)).alloc (.cells #[.int .i64 (s : Int)] 3)) w.heap.size 24 [.int .i64 (N : Int), .slice A n c]) := (Row.new w _ #[.int .i64 (N : Int), .slice A n c]).alloc _
  have hR1 := (Row.new (w.alloc (.cells #[.int .i64 (N : Int), .slice A n c] 24)) 3 #[.int .i64 (s : Int)]).cells
  have e1 : (w.alloc (.cells #[.int .i64 (N : Int), .slice A n c] 24)).heap.size = w.heap.size + 1 := by simp
  rw [e1] at hR1
  have c1 := pathCheck N A n c l (some ⟨w.heap.size + 1, 0, none⟩) 1 1 [(s : Int)] _ (hA.step HB0) hn hm hR1 rfl (by omega)
  rw [hp0, errV_zero] at c1
  unfold graphV at c1 ⊢
  have C1 := Lib.hid c1
  have HB := Lib.hid HB0
  have HN := Lib.hid hn
  have HGE := Lib.hid hg
  clear hn hg HB0 c1 hR1 e1 hp0
  go_enter Tryd.func6, Tryd.ntmps6
  go_wp2_with fail
  refine C1.out.mono ?_
  rintro e w1 ⟨rfl, hb1⟩
  have HB1 : Hid (Below w.heap.size w w1) := HB.out.trans (hb1.mono (by simp; omega))
  have HR1 := Lib.hid (HR0.out.step hb1)
  have c2 := search_ N A n c l s false w1 (hA.below HB1.out (Nat.le_refl _) |>.more HB1.out.size) HN.out HGE.out hs
  unfold graphV at c2
  have C2 := Lib.hid c2
  have hq0 := HR1.out.cell 0
  have hq1 := HR1.out.cell 1
  have hsz := HB1.out.size
  clear hb1 C1 HB HR0 c2 hA
  go_wp2_with fail
  refine C2.out.mono ?_
  rintro e w2 ⟨O, outs, rfl, hol, hro, hsh, hww, hb2, hO⟩
  have HB2 : Hid (Below w.heap.size w w2) := HB1.out.trans (hb2.mono hsz)
  have HRO := Lib.hid hro
  have HSH := Lib.hid hsh
  have HWW := Lib.hid hww
  have HOL := Lib.hid hol
  clear hro hsh hww hol hb2 C2 hq0 hq1 HR1 HB1
  go_wp2
  go_loopw [21, 7] (fun i v wr => ∃ (k : Nat) (V : Option Addr) (cv : Nat), i = .int .i64 (k : Int) ∧ k ≤ N ∧ v = .slice V k cv ∧ Hid (wr.ownsRow w.heap.size 3 1 (.slice V k cv) k (ints ((outs.take k).map (·.weight)))) ∧ Hid (Row wr O 52 (frRow outs)) ∧ Hid (Below w.heap.size w wr)) (fun i _ _ => N - (intOf i).toNat)
  case atStart => exact ⟨0, none, 0, rfl, by omega, rfl, by show World.ownsRow _ _ _ _ _ _ _; exact World.ownsRow_nil _ _ _ _, HRO.out, HB2.out⟩
  case round =>
    clear HRO HB2
    obtain ⟨k, V, cv, rfl, hk, rfl, HOW, HRO, HB⟩ := hrel
    by_cases hlt : k < N
    · have hlz : (k : Int) < N := by omega
      have hg3 := fr_get (gget outs (show k < outs.length by rw [HOL.out]; exact hlt))
      obtain ⟨ex, hex⟩ : ∃ x, x = outs[k]! := ⟨_, rfl⟩
      rw [← hex] at hg3
      have HEX := Lib.hid hex
      clear hex
      obtain ⟨x0, x1, x2⟩ := ex
      have hc0 := HRO.out.cell (k * 3)
      have hc1 := HRO.out.cell (k * 3 + 1)
      have hc2 := HRO.out.cell (k * 3 + 2)
      rw [hg3.1] at hc0
      rw [hg3.2.1] at hc1
      rw [hg3.2.2] at hc2
      simp only at hc0 hc1 hc2
      have hsz2 := HB.out.size
      have hol := HRO.out.lt
      have hnew : ∀ j : Nat, ((wr.alloc (.cells #[.int .i64 x0, .int .i64 x1, .int .i64 x2] 52)).alloc (.cells #[.int .i64 x0] 3)).cell? ⟨wr.heap.size + 1, j, none⟩ = ([.int .i64 x0] : List Value)[j]? := fun j => by
        have := (Row.new (wr.alloc (.cells #[.int .i64 x0, .int .i64 x1, .int .i64 x2] 52)) 3 #[.int .i64 x0]).cell j
        rw [World.size_alloc] at this
        exact this
      have HNEW := Lib.hid hnew
      clear hnew hg3
      go_wp2_with (at_builtin; refine wp_push _ rfl (.tmp 25) (.tmp 28) 25 rfl w.heap.size 3 1 8 _ Tryd.underlying25 info_int rfl (by omega) V k cv _ rfl ((HOW.out.alloc _).alloc _) (wr.heap.size + 1) 1 [.int .i64 x0] rfl rfl (fun j u hu => (HNEW.out j).trans hu) (by intro u hu; simp at hu; subst hu; rfl) (by omega) (by omega) (by simp; omega) ?_; intro g1 c1 w4 ho4 hb4 hg4 hgr4 hat4)
      have HO4 := Lib.hid ho4
      have HB4 : Hid (Below w.heap.size w w4) := ((HB.out.alloc hsz2 _).alloc (by simp; omega) _).trans hb4
      have HR4 : Hid (Row w4 O 52 (frRow outs)) := by
        refine ((HRO.out.alloc _).alloc _).grown hgr4 (fun e => ?_)
        exact own_ne_row HOW.out HRO.out (by decide) e.symm
      clear ho4 hb4 hgr4 hat4
      go_roundw
      case rel =>
        refine ⟨k + 1, _, c1, by go_num, by omega, rfl, ?_, HR4.out, HB4.out⟩
        show World.ownsRow _ _ _ _ _ _ _
        rw [take_at (gget outs (show k < outs.length by rw [HOL.out]; exact hlt)), ← HEX.out, List.map_append, ints_append]
        exact HO4.out
      case measure => simp [intOf]; omega
    · have hlz : ¬ (k : Int) < N := by omega
      have hkN : k = N := by omega
      subst hkN
      obtain ⟨g, cg, hgg, _, _⟩ := HOW.out.form (by omega)
      simp only [Value.slice.injEq, true_and] at hgg
      obtain ⟨rfl, rfl⟩ := hgg
      go_wp2
      go_ret2
      exact ⟨g, _, outs, rfl, HOL.out, by have := HOW.out; rw [List.take_of_length_le (by rw [HOL.out]; omega)] at this; exact this, HSH.out, HWW.out, HB.out⟩
end Go.Proofs.YtmcfhiddhifdcaaDoor
