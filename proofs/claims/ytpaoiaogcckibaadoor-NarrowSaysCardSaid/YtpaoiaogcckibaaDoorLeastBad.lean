/- What narrow.Least answers of a graph that may not be, or of nodes that are not in it. Conditions: lengths are such that slices can have. -/
import Derived.Test.YtpaoiaogcckibaaDoorRangeA
import Derived.Test.YtpaoiaogcckibaaDoorMostP
import Derived.Deep.DeepCutAuto
import Derived.Deep.RegionHeld3
namespace Go.Proofs.YtpaoiaogcckibaaDoor
open Go.RowKit Go.Shelf
attribute [local go_sem] Oper.semAt_some
/-- the results, stored -/
theorem stored {w : World} {b : Nat} {u1 u2 v1 v2 : Value} {t1 t2 : TypeId} (h1 : Row w b t1 [u1]) (h2 : Row w (b + 1) t2 [u2]) :
    Row ((w.setCell ⟨b, 0, none⟩ v1).setCell ⟨b + 1, 0, none⟩ v2) b t1 [v1] ∧ Row ((w.setCell ⟨b, 0, none⟩ v1).setCell ⟨b + 1, 0, none⟩ v2) (b + 1) t2 [v2] :=
  ⟨(h1.set_ 0 v1).far (by show b ≠ b + 1; omega) _, (h2.far (by show b + 1 ≠ b; omega) v1).set_ 0 v2⟩
theorem stored_below {w0 w : World} {b B : Nat} {v1 v2 : Value} (h : Below B w0 w) (hb : B ≤ b) : Below B w0 ((w.setCell ⟨b, 0, none⟩ v1).setCell ⟨b + 1, 0, none⟩ v2) :=
  (h.setCell hb _).setCell (by show B ≤ b + 1; omega) _
set_option maxHeartbeats 4000000 in
set_option maxRecDepth 100000 in
theorem least_bad (x : Int) (A : Option Addr) (n c : Nat) (a b : Int) (l : List Edge) (w : World) (hA : Cells w w.heap.size A (edges l)) (hn : l.length = n) (hm : n ≤ 9223372036854775807) (he : leastErr x l a b ≠ 0) :
    Calls Tryd.prog 23 #[graphV x A n c, .int .i64 a, .int .i64 b] w fun e w' => e = .returned (.tuple #[.int .i64 0, errV (leastErr x l a b)]) ∧ Below w.heap.size w w' := by
  obtain ⟨w1, hw1⟩ : ∃ z, z = (((w.alloc (.cells #[.int .i64 x, .slice A n c] 40)).alloc (.cells #[.int .i64 b] 3)).alloc (.cells #[.int .i64 0] 3)).alloc (.cells #[.nilIface] 25) := ⟨_, rfl⟩
  have hb0 : Below w.heap.size w w1 := by rw [hw1]; exact ((((Below.refl _ _).alloc (Nat.le_refl _) _).alloc (by simp) _).alloc (by simp; omega) _).alloc (by simp; omega) _
  have hg1 : Row w1 w.heap.size 40 [.int .i64 x, .slice A n c] := by rw [hw1]; exact (((Row.new w _ _).alloc _).alloc _).alloc _
  have hsz : w1.heap.size = w.heap.size + 4 := by rw [hw1]; simp
  have h2 : Row w1 (w.heap.size + 1) 3 [.int .i64 b] := by
    have h := ((Row.new (w.alloc (.cells #[.int .i64 x, .slice A n c] 40)) 3 #[.int .i64 b]).alloc (.cells #[.int .i64 0] 3)).alloc (.cells #[.nilIface] 25)
    rw [World.size_alloc] at h; rw [hw1]; exact h
  have h3 : Row w1 (w.heap.size + 1 + 1) 3 [.int .i64 0] := by
    have h := (Row.new ((w.alloc (.cells #[.int .i64 x, .slice A n c] 40)).alloc (.cells #[.int .i64 b] 3)) 3 #[.int .i64 0]).alloc (.cells #[.nilIface] 25)
    rw [World.size_alloc, World.size_alloc] at h; rw [hw1]; exact h
  have h4 : Row w1 (w.heap.size + 1 + 1 + 1) 25 [.nilIface] := by
    have h := Row.new (((w.alloc (.cells #[.int .i64 x, .slice A n c] 40)).alloc (.cells #[.int .i64 b] 3)).alloc (.cells #[.int .i64 0] 3)) 25 #[.nilIface]
    rw [World.size_alloc, World.size_alloc, World.size_alloc] at h; rw [hw1]; exact h
  have c1 := spanCheck x A n c l w1 ((hA.below hb0 (Nat.le_refl _)).more (by omega)) hn hm
  unfold graphV at c1 ⊢
  have C1 := Lib.hid c1
  have HB0 := Lib.hid hb0
  have HG1 := Lib.hid hg1
  have H2 := Lib.hid h2
  have H3 := Lib.hid h3
  have H4 := Lib.hid h4
  have hq0 := hg1.cell 0
  have hq1 := hg1.cell 1
  clear c1 hb0 hg1 h2 h3 h4
  refine calls_of_marks Tryd.func23 rfl ?_
  simp only [Tryd.ntmps23, List.size_toArray, List.length_cons, List.length_nil, Nat.reduceAdd, Nat.reduceSub, Array.replicate_succ, Array.replicate_zero, List.push_toArray, List.append_toArray, List.nil_append, List.cons_append]
  go_upto_region 1 with fail
  rw [← hw1]
  clear hw1
  by_cases hg : graphErr x l = 0
  · have HE : Hid (leastErr x l a b = 1) := by
      show _ = _
      unfold leastErr at he ⊢
      rw [if_pos hg] at he ⊢
      split at he
      · exact absurd rfl he
      · next h => rw [if_neg h]
    have hnin : ¬ (inB a 0 (x - 1) = true ∧ inB b 0 (x - 1) = true) := fun h => by
      unfold leastErr at he
      rw [if_pos hg, if_pos h] at he
      exact he rfl
    obtain ⟨⟨hx0, hx1⟩, _, _⟩ := graphErr_ok hg
    rw [hg, errV_zero] at C1
    have hwx : IntKind.i64.wrap (x - 1) = x - 1 := by rw [IntKind.wrap_i64]; omega
    clear he hA hn hm
    go_wp2_with fail
    refine C1.out.mono ?_
    rintro e w2 ⟨rfl, hb2⟩
    have HB2 : Hid (Below w.heap.size w w2) := HB0.out.trans (hb2.mono (by omega))
    have K1 := Lib.hid (HG1.out.step hb2)
    have K2 := Lib.hid (H2.out.step hb2)
    have K3 := Lib.hid (H3.out.step hb2)
    have K4 := Lib.hid (H4.out.step hb2)
    clear C1 hb2 H2 H3 H4 HG1 hq0 hq1
    have k1 := K1.out.cell 0
    have k2 := K2.out.cell 0
    have k3 := K3.out.cell 0
    have k4 := K4.out.cell 0
    have f3 := K3.out.frozen 0
    have f4 := K4.out.frozen 0
    clear hx0 hx1
    cases h1 : inB a 0 (x - 1) with
    | false =>
      clear hnin
      go_wp2_with (go_at_call 73; refine (within _ _ _ _).mono ?_; rintro e w' ⟨rfl, rfl⟩)
      obtain ⟨r3, r4⟩ := stored (v1 := .int .i64 0) (v2 := .iface 91 (.int .i64 1)) K3.out K4.out
      have q3 := r3.cell 0
      have q4 := r4.cell 0
      exact ⟨.tuple #[.int .i64 0, .iface 91 (.int .i64 1)], by simp [results, Tryd.f23, go_sem, q3, q4], by rw [HE.out]; rfl, stored_below HB2.out (by omega)⟩
    | true =>
      have h2 : inB b 0 (x - 1) = false := by
        cases h : inB b 0 (x - 1) with
        | false => rfl
        | true => exact absurd ⟨h1, h⟩ hnin
      clear hnin
      go_wp2_with (go_at_call 73; refine (within _ _ _ _).mono ?_; rintro e w' ⟨rfl, rfl⟩)
      obtain ⟨r3, r4⟩ := stored (v1 := .int .i64 0) (v2 := .iface 91 (.int .i64 1)) K3.out K4.out
      have q3 := r3.cell 0
      have q4 := r4.cell 0
      exact ⟨.tuple #[.int .i64 0, .iface 91 (.int .i64 1)], by simp [results, Tryd.f23, go_sem, q3, q4], by rw [HE.out]; rfl, stored_below HB2.out (by omega)⟩
  · have HE : Hid (leastErr x l a b = graphErr x l) := if_neg hg
    rw [errV_bad hg] at C1
    have HF := Lib.hid (errV_bad hg)
    go_wp2_with fail
    refine C1.out.mono ?_
    rintro e w2 ⟨rfl, hb2⟩
    have HB2 : Hid (Below w.heap.size w w2) := HB0.out.trans (hb2.mono (by omega))
    have K3 := Lib.hid (H3.out.step hb2)
    have K4 := Lib.hid (H4.out.step hb2)
    have k3 := K3.out.cell 0
    have k4 := K4.out.cell 0
    have f3 := K3.out.frozen 0
    have f4 := K4.out.frozen 0
    clear C1 hb2 hq0 hq1 H2 H3 H4 HG1
    go_wp2
    obtain ⟨r3, r4⟩ := stored (v1 := .int .i64 0) (v2 := .iface 91 (.int .i64 (graphErr x l))) K3.out K4.out
    have q3 := r3.cell 0
    have q4 := r4.cell 0
    exact ⟨.tuple #[.int .i64 0, .iface 91 (.int .i64 (graphErr x l))], by simp [results, Tryd.f23, go_sem, q3, q4], by rw [HE.out, HF.out], stored_below HB2.out (by omega)⟩
end Go.Proofs.YtpaoiaogcckibaaDoor
