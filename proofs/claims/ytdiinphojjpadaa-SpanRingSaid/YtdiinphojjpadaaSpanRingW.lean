/- The walk of SpanRing. Conditions: lengths are such that slices can have. -/
import Derived.Test.YtdiinphojjpadaaRingP
import Derived.Test.YtdiinphojjpadaaBoruvka
import Derived.Test.YtdiinphojjpadaaLighter
import Derived.Test.YtdiinphojjpadaaSpanFact
namespace Go.Proofs.Ytdiinphojjpadaa
open Go.RowKit
theorem forest_lenR (N : Nat) (l : List Edge) : (forest N l).length ≤ l.length := by
  have := len_le_of_sub (forest N l) (upto l.length) (forest_nodup N l) fun i hi => (mem_upto _ _).2 (mem_forest.1 hi).1
  rwa [upto_len] at this
/-- the lighter ones of the first so many of the forest -/
noncomputable def lightK (N : Nat) (l : List Edge) (i : Int) (k : Nat) : List Int := ((forest N l).take k).filter fun y => ltB l y i
def InTake (N : Nat) (l : List Edge) (i : Int) (k : Nat) (b : Bool) : Prop := b = true ↔ i ∈ (forest N l).take k
theorem InTake.next {N : Nat} {l : List Edge} {i q : Int} {k : Nat} {b : Bool} (h : InTake N l i k b) (hq : (forest N l)[k]? = some q) : InTake N l i (k + 1) (b || decide (q = i)) := by
  unfold InTake at *
  rw [take_at hq, Bool.or_eq_true, h, decide_eq_true_iff]
  simp [eq_comm]
theorem lightK_next {N : Nat} {l : List Edge} {i q : Int} {k : Nat} (hq : (forest N l)[k]? = some q) : lightK N l i (k + 1) = lightK N l i k ++ (if ltB l q i = true then [q] else []) := by
  unfold lightK
  rw [take_at hq, List.filter_append]
  congr 1
  cases h : ltB l q i <;> simp [h]
/-- a bool in a box: simp takes no '∃' over it apart -/
structure BoxB where
  b : Bool
set_option maxHeartbeats 8000000 in
set_option maxRecDepth 100000 in
theorem spanRingW (x : Int) (A : Option Addr) (n c : Nat) (i : Int) (l : List Edge) (w : World) (_ : -9223372036854775808 ≤ x ∧ x ≤ 9223372036854775807) (hA : Cells w w.heap.size A (edges l)) (hn : l.length = n) (hm : n * 24 ≤ 140737488351232) (_ : ∀ e ∈ l, InEdge e) (_ : -9223372036854775808 ≤ i ∧ i ≤ 9223372036854775807) :
    Calls Try.prog 8 #[graphV x A n c, .int .i64 i] w fun e w' => e = .returned (.bool true) ∧ Below w.heap.size w w' := by
  have HN := Lib.hid hn
  have hn8 : n ≤ 9223372036854775807 := by omega
  have HB0 : Hid (Below w.heap.size w (w.alloc (.cells #[.int .i64 x, .slice A n c] 24))) := (Below.refl _ _).alloc (Nat.le_refl _) _
  have HR0 : Hid (Row (w.alloc (.cells #[.int .i64 x, .slice A n c] 24)) w.heap.size 24 [.int .i64 x, .slice A n c]) := Row.new _ _ _
  clear hn hm
  unfold graphV
  go_enter Try.func8, Try.ntmps8
  go_wp2_with fail
  refine (spanFact _).mono ?_
  rintro e w1 ⟨rfl, hb1⟩
  have HB1 : Hid (Below w.heap.size w w1) := HB0.out.trans (hb1.mono (by simp))
  have HR1 := Lib.hid (HR0.out.step hb1)
  have hsz1 := HB1.out.size
  have hA1 := (hA.below HB1.out (Nat.le_refl _)).more hsz1
  have hq0 := HR1.out.cell 0
  have hq1 := HR1.out.cell 1
  clear hb1 HB0 HR0
  by_cases hg : graphErr x l = 0
  · obtain ⟨⟨hx0, hx1⟩, hl40, hed⟩ := graphErr_ok hg
    obtain ⟨N, rfl⟩ : ∃ N : Nat, x = N := ⟨x.toNat, by omega⟩
    have hN : N ≤ 16 := by omega
    have hn40 : n ≤ 40 := by have := HN.out; omega
    have HG := Lib.hid hg
    have HED := Lib.hid hed
    have c2 := boruvka_ok N A n c l w1 hA1 HN.out hg
    unfold graphV at c2
    have C2 := Lib.hid c2
    clear c2 hg hx0 hx1 hl40 hed hA1
    go_wp2_with fail
    refine C2.out.mono ?_
    rintro e w2 ⟨V2, k2, rfl, hown2, hb2⟩
    have HB2 : Hid (Below w.heap.size w w2) := HB1.out.trans (hb2.mono hsz1)
    have HR2 := Lib.hid (HR1.out.step hb2)
    have hfl0 := forest_lenR N l
    obtain ⟨fl, hfl⟩ : ∃ z, z = (forest N l).length := ⟨_, rfl⟩
    rw [← hfl] at hown2 hfl0 ⊢
    have HFL := Lib.hid hfl
    have HCF := Lib.hid (hown2.own (by omega))
    have hfn : fl ≤ n := by have := HN.out; omega
    have hsz2 := HB2.out.size
    have hlt2 := HR2.out.lt
    clear hown2 hb2 C2 hsz1 HB1 HR1 hfl hq0 hq1 hfl0
    have hq1 := HR2.out.cell 1
    by_cases hi0 : i < 0
    · go_wp2
      go_ret
      exact ⟨rfl, HB2.out⟩
    · by_cases hi1 : (n : Int) ≤ i
      · go_wp2
        go_ret
        exact ⟨rfl, HB2.out⟩
      · obtain ⟨qi, rfl⟩ : ∃ k : Nat, i = k := ⟨i.toNat, by omega⟩
        have hqi : qi < n := by omega
        have HO2 : Hid (w2.ownsRow w2.heap.size 3 1 (.slice none 0 0) 0 []) := World.ownsRow_nil _ _ _ _
        have hd0 : decide ((qi : Int) < 0) = false := decide_eq_false hi0
        have hd1 : decide ((n : Int) ≤ qi) = false := decide_eq_false hi1
        have hd2 : decide (n ≤ qi) = false := decide_eq_false (by omega)
        go_wp2
        clear hd0 hd1 hd2
        go_loopw [9, 8, 10] (fun bv lv kv wr => ∃ (k m : Nat) (b : BoxB) (V : Option Addr) (cv : Nat), kv = .int .i64 (k : Int) ∧ bv = .bool b.b ∧ lv = .slice V m cv ∧ k ≤ fl ∧ m ≤ k ∧ Hid (InTake N l qi k b.b) ∧ Hid (m = (lightK N l qi k).length) ∧ Hid (wr.ownsRow w2.heap.size 3 1 (.slice V m cv) m (ints (lightK N l qi k))) ∧ Hid (Below w2.heap.size w2 wr)) (fun _ _ kv _ => fl - (intOf kv).toNat)
        case atStart => exact ⟨0, 0, ⟨false⟩, none, 0, rfl, rfl, rfl, by omega, by omega, by show InTake _ _ _ _ _; unfold InTake; simp, by show _ = _; simp [lightK], by show World.ownsRow _ _ _ _ _ _ _; simpa [ints, lightK] using HO2.out, Below.refl _ _⟩
        case round =>
          clear HO2 hq1
          obtain ⟨k, m, ⟨b⟩, V, cv, rfl, rfl, rfl, hk, hmk, HBB, HM, HO, HB⟩ := hrel
          simp only at HBB ⊢
          by_cases hkf : k < fl
          · have hkz : (k : Int) < fl := by omega
            obtain ⟨bf, offf, y, rfl, hbf, hy, hcy⟩ := ints_at HCF.out (show k < (forest N l).length by rw [← HFL.out]; exact hkf)
            obtain ⟨⟨hy0, hyn⟩, _⟩ := mem_forest.1 (List.mem_of_getElem? hy)
            obtain ⟨q, rfl⟩ : ∃ q : Nat, y = q := ⟨y.toNat, by omega⟩
            have hqn : q < n := by have := HN.out; omega
            have HNX := Lib.hid (lightK_next (i := (qi : Int)) hy)
            have HBX := Lib.hid (HBB.out.next hy)
            have HCY := Lib.hid hcy
            have HBF := Lib.hid hbf
            rw [← HB.out.cell (p := ⟨bf, offf + k, none⟩) hbf] at hcy
            have HG2 := Lib.hid (HR2.out.below HB.out hlt2)
            have hg0 := HG2.out.cell 0
            have hg1 := HG2.out.cell 1
            have hqz : ¬ (q : Int) < 0 := by omega
            have hqz2 : (q : Int) < n := by omega
            have hqz3 : ¬ (n : Int) ≤ q := by omega
            have hszr := HB.out.size
            have HBW : Hid (Below w.heap.size w wr) := HB2.out.trans (HB.out.mono hsz2)
            clear hy hy0 hyn
            have hcl : ∀ z, Calls Try.prog 31 #[.agg #[.int .i64 (N : Int), .slice A n c], .int .i64 (q : Int), .int .i64 (qi : Int)] ((wr.drewN z).drew) fun e w' => e = .returned (.bool (ltB l q qi)) ∧ Below ((wr.drewN z).drew).heap.size ((wr.drewN z).drew) w' := fun z =>
              lighter_ N A n c q qi l _ (((hA.below HBW.out (Nat.le_refl _)).more HBW.out.size).keep fun _ _ => rfl) HN.out hqn hqi hn8
            have HCL := Lib.hid hcl
            obtain ⟨lt, hlt⟩ : ∃ z, z = ltB l q qi := ⟨_, rfl⟩
            rw [← hlt] at HCL
            have HLT := Lib.hid hlt
            have hBd : ∀ z, Below w2.heap.size w2 ((wr.drewN z).drew) := fun z => below_drewN HB.out (z + 1)
            have HBD := Lib.hid hBd
            have hOd : ∀ z, ((wr.drewN z).drew).ownsRow w2.heap.size 3 1 (.slice V m cv) m (ints (lightK N l qi k)) := fun z => HO.out
            have HOD := Lib.hid hOd
            clear hcl hlt hBd hOd
            obtain ⟨b', hb'⟩ : ∃ z, z = (b || decide ((q : Int) = qi)) := ⟨_, rfl⟩
            have HBN : Hid (InTake N l qi (k + 1) b') := by rw [hb']; exact HBX.out
            cases b with
            | true =>
              simp only [Bool.true_or] at hb'
              subst hb'
              go_wp2
              go_quiet (fail)
              go_wp2
              go_region_held3 (fun W => W.cell? ⟨w.heap.size, 0, none⟩ = some (.int .i64 (N : Int)) ∧ W.cell? ⟨w.heap.size, 1, none⟩ = some (.slice A n c) ∧ W.cell? ⟨bf, offf + k, none⟩ = some (.int .i64 (q : Int))) (first | go_keep | (go_split_ands; refine ⟨?_, ?_, ?_⟩ <;> assumption))
                (first | (go_at_call 31; refine (HCL.out _).mono ?_; rintro e w5 ⟨rfl, hb5⟩; have HB5 : Hid (Below w2.heap.size w2 w5) := (HBD.out _).trans (hb5.mono hszr); have HO5 : Hid (w5.ownsRow w2.heap.size 3 1 (.slice V m cv) m (ints (lightK N l qi k))) := (Keeps.ofBelow hb5 : Keeps [] _ w5).own (HOD.out _) (fun _ _ hm => by simp at hm); have HG5 := HR2.out.below HB5.out hlt2; have z1 := HG5.cell 0; have z2 := HG5.cell 1; have z3 := (HB5.out.cell (p := ⟨bf, offf + k, none⟩) HBF.out).trans HCY.out; clear hb5 HG5))
              cases lt with
              | true =>
                have HLF : Hid (lightK N l qi (k + 1) = lightK N l qi k ++ [(q : Int)]) := by
                  show _ = _
                  rw [HNX.out, ← HLT.out]; simp
                have HNEW := Lib.hid (fun j => (Row.new w5 3 #[.int .i64 (q : Int)]).cell j)
                have hsz5 := HB5.out.size
                go_upto_region 11 with (at_builtin; refine wp_push _ rfl (.tmp 73) (.tmp 78) 31 rfl w2.heap.size 3 1 8 _ Try.underlying31 info_int rfl (by omega) V m cv _ rfl (HO5.out.alloc _) w5.heap.size 1 [.int .i64 (q : Int)] rfl rfl (fun j u hu => (HNEW.out j).trans hu) (by intro u hu; simp at hu; subst hu; rfl) (by omega) (by omega) (by simp; omega) ?_; intro g1 c1 w9 ho9 hb9 hg9 hgr9 hat9)
                have HO9 := Lib.hid ho9
                have HB9 : Hid (Below w2.heap.size w2 w9) := (HB5.out.alloc hsz5 _).trans hb9
                clear ho9 hb9 hg9 hgr9 hat9
                go_wp2
                go_roundw
                case rel =>
                  refine ⟨k + 1, m + 1, ⟨true⟩, _, c1, by go_num, rfl, rfl, by omega, by omega, HBN.out, ?_, ?_, HB9.out⟩
                  · show _ = _
                    rw [HLF.out, List.length_append, ← HM.out]; rfl
                  · show World.ownsRow _ _ _ _ _ _ _
                    rw [HLF.out, ints_append]; exact HO9.out
                case measure => simp [intOf]; omega
              | false =>
                have HLF : Hid (lightK N l qi (k + 1) = lightK N l qi k) := by
                  show _ = _
                  rw [HNX.out, ← HLT.out]; simp
                go_wp2
                go_roundw
                case rel =>
                  refine ⟨k + 1, m, ⟨true⟩, V, cv, by go_num, rfl, rfl, by omega, by omega, HBN.out, ?_, ?_, HB5.out⟩
                  · show _ = _
                    rw [HLF.out]; exact HM.out
                  · show World.ownsRow _ _ _ _ _ _ _
                    rw [HLF.out]; exact HO5.out
                case measure => simp [intOf]; omega
            | false =>
              simp only [Bool.false_or] at hb'
              by_cases hqq : (q : Int) = qi
              · have hqb : ((q : Int) == (qi : Int)) = true := by simpa using hqq
                rw [decide_eq_true hqq] at hb'
                subst hb'
                clear hqq
                go_wp2
                go_quiet (fail)
                go_wp2
                go_region_held3 (fun W => W.cell? ⟨w.heap.size, 0, none⟩ = some (.int .i64 (N : Int)) ∧ W.cell? ⟨w.heap.size, 1, none⟩ = some (.slice A n c) ∧ W.cell? ⟨bf, offf + k, none⟩ = some (.int .i64 (q : Int))) (first | go_keep | (go_split_ands; refine ⟨?_, ?_, ?_⟩ <;> assumption))
                  (first | (go_at_call 31; refine (HCL.out _).mono ?_; rintro e w5 ⟨rfl, hb5⟩; have HB5 : Hid (Below w2.heap.size w2 w5) := (HBD.out _).trans (hb5.mono hszr); have HO5 : Hid (w5.ownsRow w2.heap.size 3 1 (.slice V m cv) m (ints (lightK N l qi k))) := (Keeps.ofBelow hb5 : Keeps [] _ w5).own (HOD.out _) (fun _ _ hm => by simp at hm); have HG5 := HR2.out.below HB5.out hlt2; have z1 := HG5.cell 0; have z2 := HG5.cell 1; have z3 := (HB5.out.cell (p := ⟨bf, offf + k, none⟩) HBF.out).trans HCY.out; clear hb5 HG5))
                cases lt with
                | true =>
                  have HLF : Hid (lightK N l qi (k + 1) = lightK N l qi k ++ [(q : Int)]) := by
                    show _ = _
                    rw [HNX.out, ← HLT.out]; simp
                  have HNEW := Lib.hid (fun j => (Row.new w5 3 #[.int .i64 (q : Int)]).cell j)
                  have hsz5 := HB5.out.size
                  go_upto_region 11 with (at_builtin; refine wp_push _ rfl (.tmp 73) (.tmp 78) 31 rfl w2.heap.size 3 1 8 _ Try.underlying31 info_int rfl (by omega) V m cv _ rfl (HO5.out.alloc _) w5.heap.size 1 [.int .i64 (q : Int)] rfl rfl (fun j u hu => (HNEW.out j).trans hu) (by intro u hu; simp at hu; subst hu; rfl) (by omega) (by omega) (by simp; omega) ?_; intro g1 c1 w9 ho9 hb9 hg9 hgr9 hat9)
                  have HO9 := Lib.hid ho9
                  have HB9 : Hid (Below w2.heap.size w2 w9) := (HB5.out.alloc hsz5 _).trans hb9
                  clear ho9 hb9 hg9 hgr9 hat9
                  go_wp2
                  go_roundw
                  case rel =>
                    refine ⟨k + 1, m + 1, ⟨true⟩, _, c1, by go_num, rfl, rfl, by omega, by omega, HBN.out, ?_, ?_, HB9.out⟩
                    · show _ = _
                      rw [HLF.out, List.length_append, ← HM.out]; rfl
                    · show World.ownsRow _ _ _ _ _ _ _
                      rw [HLF.out, ints_append]; exact HO9.out
                  case measure => simp [intOf]; omega
                | false =>
                  have HLF : Hid (lightK N l qi (k + 1) = lightK N l qi k) := by
                    show _ = _
                    rw [HNX.out, ← HLT.out]; simp
                  go_wp2
                  go_roundw
                  case rel =>
                    refine ⟨k + 1, m, ⟨true⟩, V, cv, by go_num, rfl, rfl, by omega, by omega, HBN.out, ?_, ?_, HB5.out⟩
                    · show _ = _
                      rw [HLF.out]; exact HM.out
                    · show World.ownsRow _ _ _ _ _ _ _
                      rw [HLF.out]; exact HO5.out
                  case measure => simp [intOf]; omega
              · have hqb : ((q : Int) == (qi : Int)) = false := by simpa using hqq
                rw [decide_eq_false hqq] at hb'
                subst hb'
                go_wp2
                go_quiet (fail)
                go_wp2
                go_region_held3 (fun W => W.cell? ⟨w.heap.size, 0, none⟩ = some (.int .i64 (N : Int)) ∧ W.cell? ⟨w.heap.size, 1, none⟩ = some (.slice A n c) ∧ W.cell? ⟨bf, offf + k, none⟩ = some (.int .i64 (q : Int))) (first | go_keep | (go_split_ands; refine ⟨?_, ?_, ?_⟩ <;> assumption))
                  (first | (go_at_call 31; refine (HCL.out _).mono ?_; rintro e w5 ⟨rfl, hb5⟩; have HB5 : Hid (Below w2.heap.size w2 w5) := (HBD.out _).trans (hb5.mono hszr); have HO5 : Hid (w5.ownsRow w2.heap.size 3 1 (.slice V m cv) m (ints (lightK N l qi k))) := (Keeps.ofBelow hb5 : Keeps [] _ w5).own (HOD.out _) (fun _ _ hm => by simp at hm); have HG5 := HR2.out.below HB5.out hlt2; have z1 := HG5.cell 0; have z2 := HG5.cell 1; have z3 := (HB5.out.cell (p := ⟨bf, offf + k, none⟩) HBF.out).trans HCY.out; clear hb5 HG5))
                cases lt with
                | true =>
                  have HLF : Hid (lightK N l qi (k + 1) = lightK N l qi k ++ [(q : Int)]) := by
                    show _ = _
                    rw [HNX.out, ← HLT.out]; simp
                  have HNEW := Lib.hid (fun j => (Row.new w5 3 #[.int .i64 (q : Int)]).cell j)
                  have hsz5 := HB5.out.size
                  go_upto_region 11 with (at_builtin; refine wp_push _ rfl (.tmp 73) (.tmp 78) 31 rfl w2.heap.size 3 1 8 _ Try.underlying31 info_int rfl (by omega) V m cv _ rfl (HO5.out.alloc _) w5.heap.size 1 [.int .i64 (q : Int)] rfl rfl (fun j u hu => (HNEW.out j).trans hu) (by intro u hu; simp at hu; subst hu; rfl) (by omega) (by omega) (by simp; omega) ?_; intro g1 c1 w9 ho9 hb9 hg9 hgr9 hat9)
                  have HO9 := Lib.hid ho9
                  have HB9 : Hid (Below w2.heap.size w2 w9) := (HB5.out.alloc hsz5 _).trans hb9
                  clear ho9 hb9 hg9 hgr9 hat9
                  go_wp2
                  go_roundw
                  case rel =>
                    refine ⟨k + 1, m + 1, ⟨false⟩, _, c1, by go_num, rfl, rfl, by omega, by omega, HBN.out, ?_, ?_, HB9.out⟩
                    · show _ = _
                      rw [HLF.out, List.length_append, ← HM.out]; rfl
                    · show World.ownsRow _ _ _ _ _ _ _
                      rw [HLF.out, ints_append]; exact HO9.out
                  case measure => simp [intOf]; omega
                | false =>
                  have HLF : Hid (lightK N l qi (k + 1) = lightK N l qi k) := by
                    show _ = _
                    rw [HNX.out, ← HLT.out]; simp
                  go_wp2
                  go_roundw
                  case rel =>
                    refine ⟨k + 1, m, ⟨false⟩, V, cv, by go_num, rfl, rfl, by omega, by omega, HBN.out, ?_, ?_, HB5.out⟩
                    · show _ = _
                      rw [HLF.out]; exact HM.out
                    · show World.ownsRow _ _ _ _ _ _ _
                      rw [HLF.out]; exact HO5.out
                  case measure => simp [intOf]; omega
          · have hkf2 : k = fl := by omega
            subst hkf2
            have hkz : ¬ (k : Int) < k := by omega
            have HT2 : Hid ((forest N l).take k = forest N l) := List.take_of_length_le (by rw [← HFL.out]; omega)
            have HLL : Hid (lightK N l qi k = lightF N l qi) := by show _ = _; unfold lightK lightF; rw [HT2.out]
            rw [HLL.out] at HM HO
            have hbb0 := HBB.out
            unfold InTake at hbb0
            rw [HT2.out] at hbb0
            have HBB2 := Lib.hid hbb0
            clear hbb0
            have HG2 := Lib.hid (HR2.out.below HB.out hlt2)
            have hg0 := HG2.out.cell 0
            have hg1 := HG2.out.cell 1
            have HBW : Hid (Below w.heap.size w wr) := HB2.out.trans (HB.out.mono hsz2)
            have hszr := HB.out.size
            have c6 := tied_ N A n c l V m cv (lightF N l qi) wr ((hA.below HBW.out (Nat.le_refl _)).more HBW.out.size) HN.out HG.out (HO.out.own (by omega)) HM.out.symm (by omega) (fun y hy => by
              have := (mem_forest.1 (List.mem_filter.1 hy).1).1
              rw [HN.out] at this; exact this)
            unfold graphV at c6
            have C6 := Lib.hid c6
            clear c6 HCF
            go_wp2_with fail
            refine C6.out.mono ?_
            rintro e w6 ⟨p, U, cu, S, cs, R, free, rfl, hu, hgen, _, hb6⟩
            have HBW6 : Hid (Below w.heap.size w w6) := HBW.out.trans (hb6.mono HBW.out.size)
            have HG6 := Lib.hid (HG2.out.step hb6)
            obtain ⟨be, off, ea, eb, et, rfl, hbb, hx, hc0, hc1, _⟩ := edges_at hA (show qi < l.length by rw [HN.out]; exact hqi)
            obtain ⟨⟨ha0, ha1⟩, ⟨hb0, hb1⟩, _⟩ := HED.out _ (List.mem_of_getElem? hx)
            simp only at ha0 ha1 hb0 hb1
            obtain ⟨xa, rfl⟩ : ∃ z : Nat, ea = z := ⟨ea.toNat, by omega⟩
            obtain ⟨xb, rfl⟩ : ∃ z : Nat, eb = z := ⟨eb.toNat, by omega⟩
            have hxa : xa < N := by omega
            have hxb : xb < N := by omega
            have heo : eOf l (qi : Int) = ((xa : Int), (xb : Int)) := by unfold eOf; rw [eAt_of hx]
            have hring := ring_law HG.out (i := (qi : Int)) (by omega) (by rw [HN.out]; omega)
            rw [heo] at hring
            simp only [Int.toNat_natCast] at hring
            have hconn := hgen.conn hxa hxb
            have HSAME : Hid (oneB R xa xb = !b) := by
              show _ = _
              have h1 : oneB R xa xb = true ↔ ¬ inF N l (qi : Int) = true := by
                unfold oneB
                rw [decide_eq_true_iff, hconn]; exact hring
              have h2 : b = true ↔ inF N l (qi : Int) = true := by
                rw [HBB2.out]
                exact ⟨fun h => (mem_forest.1 h).2, fun h => mem_forest.2 ⟨by rw [HN.out]; omega, h⟩⟩
              cases hb : b <;> cases ho : oneB R xa xb <;> simp [hb, ho] at h1 h2 ⊢ <;> simp_all
            have HC0 := Lib.hid hc0
            have HC1 := Lib.hid hc1
            have HBBE := Lib.hid hbb
            have hud : UG w6.drew wr.heap.size p N U cu S cs R := hu.keeps (Keeps.drew (Keeps.refl [] _)) (fun _ _ => by simp)
            have HUB := Lib.hid hu.base_le
            have cs_ := Lib.hid (same_ok hud hxa hxb)
            rw [← HBW6.out.cell (p := ⟨be, off + qi * 3, none⟩) hbb] at hc0
            rw [← HBW6.out.cell (p := ⟨be, off + qi * 3 + 1, none⟩) hbb] at hc1
            have hg1 := HG6.out.cell 1
            have hqiz : (qi : Int) < n := by omega
            have hszw := HBW.out.size
            have hsz6 : wr.heap.size ≤ w6.heap.size := hb6.size
            clear hx heo hring hconn hgen hu hb6 C6 HBB HM HO hud hA
            go_wp2
            go_region_held3 (fun W => W.cell? ⟨w.heap.size, 1, none⟩ = some (.slice (some ⟨be, off, none⟩) n c) ∧ W.cell? ⟨be, off + qi * 3, none⟩ = some (.int .i64 (xa : Int)) ∧ W.cell? ⟨be, off + qi * 3 + 1, none⟩ = some (.int .i64 (xb : Int))) (first | go_keep | (go_split_ands; refine ⟨?_, ?_, ?_⟩ <;> assumption))
              (first | (go_at_call 33; refine cs_.out.mono ?_; rintro e w7 ⟨rfl, _, hk7⟩; rw [HSAME.out]; have HB7 : Hid (Below w.heap.size w w7) := HBW6.out.trans ((Below.refl _ _).drew.trans (hk7.below (B := w.heap.size) (fun x hx => by have := (HUB.out x hx).1; omega) (by simp; omega))); have HG7 := Lib.hid (hk7.row (show Row w6.drew w.heap.size 24 [.int .i64 (N : Int), .slice (some ⟨be, off, none⟩) n c] from HG6.out) (fun hm => by have := (HUB.out _ hm).1; omega)); have z1 := HG7.out.cell 1; have z2 := (HB7.out.cell (p := ⟨be, off + qi * 3, none⟩) HBBE.out).trans HC0.out; have z3 := (HB7.out.cell (p := ⟨be, off + qi * 3 + 1, none⟩) HBBE.out).trans HC1.out; clear hk7))
            cases b with
            | true =>
              go_wp2
              go_ret
              exact ⟨rfl, HB7.out⟩
            | false =>
              go_wp2
              go_ret
              exact ⟨rfl, HB7.out⟩
  · have c2 := boruvka_bad x A n c l w1 hA1 HN.out hn8 hg
    unfold graphV at c2
    have C2 := Lib.hid c2
    clear c2 hg
    go_wp2_with fail
    refine C2.out.mono ?_
    rintro e w2 ⟨rfl, hb2⟩
    have HB2 : Hid (Below w.heap.size w w2) := HB1.out.trans (hb2.mono hsz1)
    clear hb2 C2
    go_wp2
    go_ret
    exact ⟨rfl, HB2.out⟩
end Go.Proofs.Ytdiinphojjpadaa
