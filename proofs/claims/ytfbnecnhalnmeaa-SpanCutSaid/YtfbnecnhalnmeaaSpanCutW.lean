/- The walk of SpanCut. Conditions: lengths are such that slices can have. -/
import Derived.Test.YtfbnecnhalnmeaaCutQ
import Derived.Test.YtfbnecnhalnmeaaPrim
import Derived.Test.YtfbnecnhalnmeaaLighter
import Derived.Test.YtfbnecnhalnmeaaSpanFact
import Derived.Test.YtfbnecnhalnmeaaOpenBools
namespace Go.Proofs.Ytfbnecnhalnmeaa
open Go.RowKit
theorem forest_lenC (N : Nat) (l : List Edge) : (forest N l).length ≤ l.length := by
  have := len_le_of_sub (forest N l) (upto l.length) (forest_nodup N l) fun i hi => (mem_upto _ _).2 (mem_forest.1 hi).1
  rwa [upto_len] at this
set_option maxHeartbeats 8000000 in
set_option maxRecDepth 100000 in
theorem spanCutW (x : Int) (A : Option Addr) (n c : Nat) (A' : Option Addr) (m c' : Nat) (l : List Edge) (S : List Bool) (w : World) (_ : -9223372036854775808 ≤ x ∧ x ≤ 9223372036854775807) (hA : Cells w w.heap.size A (edges l)) (hn : l.length = n) (hm : n * 24 ≤ 140737488351232) (_ : ∀ e ∈ l, InEdge e)
    (hA' : Cells w w.heap.size A' (bools S)) (hn' : S.length = m) (hm' : m * 1 ≤ 140737488351232) (_ : ∀ x ∈ S, x = x) :
    Calls Try.prog 4 #[graphV x A n c, .slice A' m c'] w fun e w' => e = .returned (.bool true) ∧ Below w.heap.size w w' := by
  have HN := Lib.hid hn
  have HN' := Lib.hid hn'
  have HA' := Lib.hid hA'
  have hn8 : n ≤ 9223372036854775807 := by omega
  have hm8 : m ≤ 9223372036854775807 := by omega
  have HB0 : Hid (Below w.heap.size w (w.alloc (.cells #[.int .i64 x, .slice A n c] 24))) := (Below.refl _ _).alloc (Nat.le_refl _) _
  have HR0 : Hid (Row (w.alloc (.cells #[.int .i64 x, .slice A n c] 24)) w.heap.size 24 [.int .i64 x, .slice A n c]) := Row.new _ _ _
  clear hn hm hn' hm' hA'
  unfold graphV
  go_enter Try.func4, Try.ntmps4
  go_wp2_with fail
  refine (spanFact _).mono ?_
  rintro e w1 ⟨rfl, hb1⟩
  have HB1 : Hid (Below w.heap.size w w1) := HB0.out.trans (hb1.mono (by simp))
  have HR1 := Lib.hid (HR0.out.step hb1)
  have hsz1 := HB1.out.size
  have hA1 := (hA.below HB1.out (Nat.le_refl _)).more hsz1
  have hq0 := HR1.out.cell 0
  have hq1 := HR1.out.cell 1
  clear hb1 HB0 HR0
  by_cases hg : graphErr x l = 0
  · obtain ⟨⟨hx0, hx1⟩, hl40, hed⟩ := graphErr_ok hg
    obtain ⟨N, rfl⟩ : ∃ N : Nat, x = N := ⟨x.toNat, by omega⟩
    have hN : N ≤ 16 := by omega
    have hn40 : n ≤ 40 := by have := HN.out; omega
    have HG := Lib.hid hg
    have HED := Lib.hid hed
    have c2 := prim_ok N A n c l w1 hA1 HN.out hg
    unfold graphV at c2
    have C2 := Lib.hid c2
    clear c2 hg hx0 hx1 hl40 hed hA1
    go_wp2_with fail
    refine C2.out.mono ?_
    rintro e w2 ⟨V2, k2, rfl, hown2, hb2⟩
    have HB2 : Hid (Below w.heap.size w w2) := HB1.out.trans (hb2.mono hsz1)
    have HR2 := Lib.hid (HR1.out.step hb2)
    have hfl0 := forest_lenC N l
    obtain ⟨fl, hfl⟩ : ∃ z, z = (forest N l).length := ⟨_, rfl⟩
    rw [← hfl] at hown2 hfl0 ⊢
    have HFL := Lib.hid hfl
    have HCF := Lib.hid (hown2.own (by omega))
    have hfn : fl ≤ n := by have := HN.out; omega
    have hsz2 := HB2.out.size
    have hlt2 := HR2.out.lt
    clear hown2 hb2 C2 hsz1 HB1 HR1 hfl hq0 hq1 hfl0
    have hq0 := HR2.out.cell 0
    have hq1 := HR2.out.cell 1
    by_cases hmN : m = N
    · subst hmN
      have hzz : ((m : Int) != (m : Int)) = false := by simp
      go_wp2
      clear hzz hq0 hq1
      go_loopw [9, 8] (fun iv bv wr => ∃ (k : Nat) (v : Int), iv = .int .i64 (k : Int) ∧ bv = .int .i64 v ∧ k ≤ n ∧ Hid (BestTo S l k v) ∧ Hid (Below w2.heap.size w2 wr)) (fun iv _ _ => n - (intOf iv).toNat)
      case atStart => exact ⟨0, -1, rfl, rfl, by omega, BestTo.start _ _, Below.refl _ _⟩
      case round =>
        obtain ⟨k, v, rfl, rfl, hk, HBT, HB⟩ := hrel
        have HRr := Lib.hid (HR2.out.below HB.out hlt2)
        have hg0 := HRr.out.cell 0
        have hg1 := HRr.out.cell 1
        by_cases hkn : k < n
        · have hkz : (k : Int) < n := by omega
          have HBW : Hid (Below w.heap.size w wr) := HB2.out.trans (HB.out.mono hsz2)
          obtain ⟨be, off, ea, eb, et, rfl, hbb, hx, hc0, hc1, _⟩ := edges_at hA (show k < l.length by rw [HN.out]; exact hkn)
          obtain ⟨⟨ha0, ha1⟩, ⟨hb0, hb1⟩, _⟩ := HED.out _ (List.mem_of_getElem? hx)
          simp only at ha0 ha1 hb0 hb1
          obtain ⟨xa, rfl⟩ : ∃ z : Nat, ea = z := ⟨ea.toNat, by omega⟩
          obtain ⟨xb, rfl⟩ : ∃ z : Nat, eb = z := ⟨eb.toNat, by omega⟩
          have hxa : xa < m := by omega
          have hxb : xb < m := by omega
          have hxaz : (xa : Int) < m := by omega
          have hxbz : (xb : Int) < m := by omega
          obtain ⟨bs, os, rfl, hbs, hca⟩ := bools_at HA'.out (show xa < S.length by rw [HN'.out]; exact hxa)
          obtain ⟨bs', os', hbe, _, hcb⟩ := bools_at HA'.out (show xb < S.length by rw [HN'.out]; exact hxb)
          simp only [Option.some.injEq, Addr.mk.injEq, and_true] at hbe
          obtain ⟨rfl, rfl⟩ := hbe
          have HCR : Hid (crossB S l k = (S.getD xa false != S.getD xb false)) := by
            show _ = _
            unfold crossB; rw [eAt_of hx]; simp
          generalize S.getD xa false = ba at hca HCR
          generalize S.getD xb false = bb at hcb HCR
          have HE0 := Lib.hid hc0
          have HE1 := Lib.hid hc1
          have HCA := Lib.hid hca
          have HCB := Lib.hid hcb
          have HBBE := Lib.hid hbb
          have HBBS := Lib.hid hbs
          rw [← HBW.out.cell (p := ⟨be, off + k * 3, none⟩) hbb] at hc0
          rw [← HBW.out.cell (p := ⟨be, off + k * 3 + 1, none⟩) hbb] at hc1
          rw [← HBW.out.cell (p := ⟨bs, os + xa, none⟩) hbs] at hca
          rw [← HBW.out.cell (p := ⟨bs, os + xb, none⟩) hbs] at hcb
          clear hx ha0 ha1 hb0 hb1
          by_cases hab : ba = bb
          · subst hab
            have HBN : Hid (BestTo S l (k + 1) v) := HBT.out.skip (by rw [HCR.out]; simp)
            go_wp2
            go_quiet (fail)
            go_wp2
            go_roundw
            case rel => exact ⟨k + 1, v, by go_num, rfl, by omega, HBN.out, below_drewN HB.out _⟩
            case measure => simp [intOf]; omega
          · obtain rfl : bb = !ba := by cases ba <;> cases bb <;> simp_all
            have HC1 : Hid (crossB S l k = true) := by show _ = _; rw [HCR.out]; simp
            clear hab
            by_cases hv : v < 0
            · have HBN : Hid (BestTo S l (k + 1) (k : Int)) := HBT.out.first hv HC1.out
              go_wp2
              go_quiet (fail)
              go_wp2
              go_roundw
              case rel => exact ⟨k + 1, (k : Int), by go_num, rfl, by omega, HBN.out, below_drewN HB.out _⟩
              case measure => simp [intOf]; omega
            · obtain ⟨q, rfl, hq⟩ := HBT.out.pos hv
              have hqn : q < n := by omega
              have hszr := HB.out.size
              have hcl : Calls Try.prog 14 #[.agg #[.int .i64 (m : Int), .slice (some ⟨be, off, none⟩) n c], .int .i64 (k : Int), .int .i64 (q : Int)] wr.drew fun e w' => e = .returned (.bool (ltB l k q)) ∧ Below wr.drew.heap.size wr.drew w' :=
                lighter_ m _ n c k q l _ (((hA.below HBW.out (Nat.le_refl _)).more HBW.out.size).keep fun _ _ => rfl) HN.out hkn hqn hn8
              have HCL := Lib.hid hcl
              obtain ⟨lt, hlt⟩ : ∃ z, z = ltB l k q := ⟨_, rfl⟩
              rw [← hlt] at HCL
              have HLT := Lib.hid hlt.symm
              have hBd : Below w2.heap.size w2 wr.drew := below_drewN HB.out 1
              have HBD := Lib.hid hBd
              clear hcl hlt hBd hv hq
              have hvv : decide ((q : Int) < 0) = false := decide_eq_false (by omega)
              go_wp2
              go_region_held3 (fun W => W.cell? ⟨w.heap.size, 0, none⟩ = some (.int .i64 (m : Int)) ∧ W.cell? ⟨w.heap.size, 1, none⟩ = some (.slice (some ⟨be, off, none⟩) n c) ∧ W.cell? ⟨be, off + k * 3, none⟩ = some (.int .i64 (xa : Int)) ∧ W.cell? ⟨be, off + k * 3 + 1, none⟩ = some (.int .i64 (xb : Int)) ∧ W.cell? ⟨bs, os + xa, none⟩ = some (.bool ba) ∧ W.cell? ⟨bs, os + xb, none⟩ = some (.bool (!ba))) (first | go_keep | (go_split_ands; refine ⟨?_, ?_, ?_, ?_, ?_, ?_⟩ <;> assumption))
                (first | (go_at_call 14; refine HCL.out.mono ?_; rintro e w5 ⟨rfl, hb5⟩; have HB5 : Hid (Below w2.heap.size w2 w5) := HBD.out.trans (hb5.mono hszr); have HBW5 : Hid (Below w.heap.size w w5) := HB2.out.trans (HB5.out.mono hsz2); have HG5 := HR2.out.below HB5.out hlt2; have z1 := HG5.cell 0; have z2 := HG5.cell 1; have z3 := (HBW5.out.cell (p := ⟨be, off + k * 3, none⟩) HBBE.out).trans HE0.out; have z4 := (HBW5.out.cell (p := ⟨be, off + k * 3 + 1, none⟩) HBBE.out).trans HE1.out; have z5 := (HBW5.out.cell (p := ⟨bs, os + xa, none⟩) HBBS.out).trans HCA.out; have z6 := (HBW5.out.cell (p := ⟨bs, os + xb, none⟩) HBBS.out).trans HCB.out; clear hb5 HG5))
              cases lt with
              | true =>
                have HBN : Hid (BestTo S l (k + 1) (k : Int)) := HBT.out.take HC1.out HLT.out
                go_wp2
                go_roundw
                case rel => exact ⟨k + 1, (k : Int), by go_num, rfl, by omega, HBN.out, HB5.out⟩
                case measure => simp [intOf]; omega
              | false =>
                have HBN : Hid (BestTo S l (k + 1) (q : Int)) := HBT.out.stay HLT.out
                go_wp2
                go_roundw
                case rel => exact ⟨k + 1, (q : Int), by go_num, rfl, by omega, HBN.out, HB5.out⟩
                case measure => simp [intOf]; omega
        · have hkn2 : k = n := by omega
          subst hkn2
          have hkz : ¬ (k : Int) < k := by omega
          have HLAW : Hid (v ∉ forest m l → decide (v < 0) = true) := fun hv => best_law HG.out (by rw [HN.out]; exact HBT.out) hv
          clear HBT
          go_wp2
          go_loopw [10] (fun jv wr => ∃ (j : Nat), jv = .int .i64 (j : Int) ∧ j ≤ fl ∧ Hid (v ∉ (forest m l).take j) ∧ Hid (Below w2.heap.size w2 wr)) (fun jv _ => fl - (intOf jv).toNat)
          case atStart => exact ⟨0, rfl, by omega, by show _ ∉ _; simp, HB.out⟩
          case round =>
            clear HB HRr hg0 hg1
            obtain ⟨j, rfl, hj, HV, HB⟩ := hrel
            by_cases hjf : j < fl
            · have hjz : (j : Int) < fl := by omega
              obtain ⟨bf, offf, y, rfl, hbf, hy, hcy⟩ := ints_at HCF.out (show j < (forest m l).length by rw [← HFL.out]; exact hjf)
              rw [← HB.out.cell (p := ⟨bf, offf + j, none⟩) hbf] at hcy
              have HY := Lib.hid (take_at hy)
              clear hy
              by_cases hyv : y = v
              · subst hyv
                have hd : (y == y) = true := by simp
                go_wp2
                go_ret
                exact ⟨rfl, HB2.out.trans (HB.out.mono hsz2)⟩
              · have hd : (y == v) = false := by simpa using hyv
                have HV2 : Hid (v ∉ (forest m l).take (j + 1)) := by
                  show _ ∉ _
                  rw [HY.out]; simp [HV.out, Ne.symm hyv]
                clear hyv
                go_wp2
                go_roundw
                case rel => exact ⟨j + 1, by go_num, by omega, HV2.out, HB.out⟩
                case measure => simp [intOf]; omega
            · have hjf2 : j = fl := by omega
              subst hjf2
              have hjz : ¬ (j : Int) < j := by omega
              have HD := Lib.hid (HLAW.out (by have := HV.out; rwa [List.take_of_length_le (by rw [← HFL.out]; omega)] at this))
              go_wp2
              go_ret
              exact ⟨ret_bool HD.out, HB2.out.trans (HB.out.mono hsz2)⟩
    · have hzz : ((m : Int) != (N : Int)) = true := by rw [bne_iff_ne]; omega
      go_wp2
      go_ret
      exact ⟨rfl, HB2.out⟩
  · have c2 := prim_bad x A n c l w1 hA1 HN.out hn8 hg
    unfold graphV at c2
    have C2 := Lib.hid c2
    clear c2 hg
    go_wp2_with fail
    refine C2.out.mono ?_
    rintro e w2 ⟨rfl, hb2⟩
    have HB2 : Hid (Below w.heap.size w w2) := HB1.out.trans (hb2.mono hsz1)
    clear hb2 C2
    go_wp2
    go_ret
    exact ⟨rfl, HB2.out⟩
end Go.Proofs.Ytfbnecnhalnmeaa
