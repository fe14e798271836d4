/- What span.Kruskal answers: what is wrong with a graph, or its forest. Conditions: lengths are such that slices can have. -/
import Derived.Test.YtejbilcofbjpiaaKruskalP
import Derived.Test.YtejbilcofbjpiaaStableF
import Derived.Test.YtejbilcofbjpiaaSortNone
import Derived.Deep.RegionHeld3
import Derived.Deep.DeepCutAuto
namespace Go.Proofs.Ytejbilcofbjpiaa
open Go.RowKit Go.Sort
set_option maxHeartbeats 1000000 in
/-- the closure of span.Kruskal: it reads the boxed graph -/
theorem kLess (A : Option Addr) (n c bx : Nat) (l : List Edge) (x y : Int) (w : World) (hA : Cells w w.heap.size A (edges l)) (hn : l.length = n) (hbx : w.cell? ⟨bx, 1, none⟩ = some (.slice A n c))
    (hx0 : 0 ≤ x) (hx1 : x < n) (hy0 : 0 ≤ y) (hy1 : y < n) (_hm : n ≤ 9223372036854775807) :
    Calls Try.prog 12 #[.int .i64 x, .int .i64 y, .pointer (some ⟨bx, 0, none⟩)] w fun e w' => e = .returned (.int .i64 (kC l x y)) ∧ ∃ q os, w' = grow (w.drewN q) os := by
  obtain ⟨i, rfl⟩ : ∃ i : Nat, x = i := ⟨x.toNat, by omega⟩
  obtain ⟨j, rfl⟩ : ∃ j : Nat, y = j := ⟨y.toNat, by omega⟩
  obtain ⟨b, off, a1, b1, t1, rfl, _, h1, _, _, hc1⟩ := edges_at hA (show i < l.length by omega)
  obtain ⟨b', off', a2, b2, t2, hbb, _, h2, _, _, hc2⟩ := edges_at hA (show j < l.length by omega)
  simp only [Option.some.injEq, Addr.mk.injEq, and_true] at hbb
  obtain ⟨rfl, rfl⟩ := hbb
  have HC : Hid (kC l i j = cmpI t1 t2) := by
    show _ = _
    simp [kC, wOf, eAt_of h1, eAt_of h2]
  clear h1 h2 hA hn
  go_enter Try.func12, Try.ntmps12
  go_wp2
  go_quiet ((go_at_call 13; exact quiet_l (compare_ _ _ _)))
  go_wp2
  go_ret
  exact ⟨ret_int HC.out.symm, nq, #[], by rw [grow_empty]⟩
set_option maxHeartbeats 1000000 in
theorem kruskal_bad (N : Int) (A : Option Addr) (n c : Nat) (l : List Edge) (w : World) (hA : Cells w w.heap.size A (edges l)) (hn : l.length = n) (hm : n ≤ 9223372036854775807) (he : graphErr N l ≠ 0) :
    Calls Try.prog 5 #[graphV N A n c] w fun e w' => e = .returned (.tuple #[.slice none 0 0, .iface 54 (.int .i64 (graphErr N l))]) ∧ Below w.heap.size w w' := by
  have HF := Lib.hid (errV_bad he)
  have hb0 : Below w.heap.size w (w.alloc (.cells #[.int .i64 N, .slice A n c] 24)) := (Below.refl _ _).alloc (Nat.le_refl _) _
  have c1 := spanCheck N A n c l _ (hA.step hb0) hn hm
  unfold graphV at c1 ⊢
  have C1 := Lib.hid c1
  have HB := Lib.hid hb0
  clear he hn c1 hb0 hA
  go_enter Try.func5, Try.ntmps5
  go_wp2_with fail
  refine C1.out.mono ?_
  rintro e w1 ⟨rfl, hb1⟩
  rw [HF.out]
  have HB1 : Hid (Below w.heap.size w w1) := HB.out.trans (hb1.mono (by simp))
  clear hb1 C1 HB
  go_wp2
  go_ret2
  exact ⟨rfl, HB1.out⟩
theorem own_base {w : World} {b b' e size n : Nat} {v : Value} {xs : List Value} (h : w.ownsRow b e size v n xs) (hb : b' ≤ b) : w.ownsRow b' e size v n xs := by
  obtain ⟨h1, h2⟩ := h
  refine ⟨h1, ?_⟩
  rcases h2 with h2 | ⟨g, cap, cur, rfl, hg, r⟩
  · exact Or.inl h2
  · exact Or.inr ⟨g, cap, cur, rfl, by omega, r⟩
def KruskalOK (w : World) (N : Nat) (l : List Edge) (e : Ending) (w' : World) : Prop :=
  ∃ V c, e = .returned (.tuple #[.slice V (forest N l).length c, .nilIface]) ∧ w'.ownsRow w.heap.size 3 1 (.slice V (forest N l).length c) (forest N l).length (ints (forest N l)) ∧ Below w.heap.size w w'
/-- the edges sorted: what the walk has ahead of the groups -/
def SortedOK (w : World) (N : Nat) (A : Option Addr) (n c : Nat) (l : List Edge) (g : Nat) (w' : World) : Prop :=
  Row w' g 3 (ints (kord l)) ∧ w.heap.size < g ∧ Row w' w.heap.size 24 [.int .i64 (N : Int), .slice A n c] ∧ Below w.heap.size w w'
set_option maxHeartbeats 8000000 in
set_option maxRecDepth 100000 in
theorem kruskal_ok (N : Nat) (A : Option Addr) (n c : Nat) (l : List Edge) (w : World) (hA : Cells w w.heap.size A (edges l)) (hn : l.length = n) (hg : graphErr N l = 0) :
    Calls Try.prog 5 #[graphV N A n c] w (KruskalOK w N l) := by
  obtain ⟨⟨hN0, hN1⟩, hl40, hed⟩ := graphErr_ok hg
  have hn40 : n ≤ 40 := by omega
  have hN : N ≤ 16 := by omega
  have HG := Lib.hid hg
  have HN := Lib.hid hn
  have HED := Lib.hid hed
  have hb0 : Below w.heap.size w (w.alloc (.cells #[.int .i64 (N : Int), .slice A n c] 24)) := (Below.refl _ _).alloc (Nat.le_refl _) _
  have c1 := spanCheck N A n c l _ (hA.step hb0) hn (by omega)
  have HR0 : Hid (Row (w.alloc (.cells #[.int .i64 (N : Int), .slice A n c] 24)) w.heap.size 24 [.int .i64 (N : Int), .slice A n c]) := Row.new _ _ _
  rw [hg, errV_zero] at c1
  unfold graphV at c1 ⊢
  have C1 := Lib.hid c1
  have HB0 := Lib.hid hb0
  have hmk := make_row 26 3 (.int .i64 0) 8 Try.underlying26 info_int rfl n (by omega) (by omega)
  have HMK := Lib.hid hmk
  clear hn c1 hb0 hg hl40 hed hN0 hN1 hmk
  go_enter Try.func5, Try.ntmps5
  go_wp2_with fail
  refine C1.out.mono ?_
  rintro e w1 ⟨rfl, hb1⟩
  have HB1 : Hid (Below w.heap.size w w1) := HB0.out.trans (hb1.mono (by simp))
  have HR1 := Lib.hid (HR0.out.step hb1)
  have hsz1 : w.heap.size < w1.heap.size := HR1.out.lt
  have hq1 := HR1.out.cell 1
  have hmk := HMK.out
  clear hb1 C1 HB0 HR0 HMK
  go_wp2
  clear hmk hq1
  have HR : Row (w1.alloc (.cells (madeCells #[.int .i64 0] n) 3)) w1.heap.size 3 (fillRow n 0) := by rw [← fillRow_zero]; exact Row.made _ _ _ _
  go_loopw [25] (fun i wr => ∃ k : Nat, k ≤ n ∧ i = .int .i64 k ∧ Hid (Row wr w1.heap.size 3 (fillRow n k)) ∧ Hid (Below w1.heap.size w1 wr)) (fun i _ => n - (intOf i).toNat)
  case atStart => exact ⟨0, Nat.zero_le _, rfl, HR, (Below.refl _ _).alloc (Nat.le_refl _) _⟩
  case round =>
    clear HR
    obtain ⟨k, hk, rfl, hr, hb⟩ := hrel
    by_cases hlt : k < n
    · have hlz : (k : Int) < n := by omega
      have hc := hr.out.cell k
      rw [fillRow_at hlt] at hc
      have hf := hr.out.frozen k
      go_wp2
      go_roundw
      case rel => exact ⟨k + 1, by omega, by go_num, by show Row _ _ _ _; rw [← fillRow_set]; exact hr.out.set_ _ _, hb.out.setCell (Nat.le_refl _) _⟩
      case measure => simp [intOf]; omega
    · have hkn : k = n := by omega
      subst hkn
      have hlz : ¬ (k : Int) < k := by omega
      have hrf := hr.out
      rw [fillRow_full] at hrf
      have hbw : Below w.heap.size w wr := HB1.out.trans (hb.out.mono (by omega))
      have hrg : Row wr w.heap.size 24 [.int .i64 (N : Int), .slice A k c] := HR1.out.step hb.out
      have hcont : ∀ (w2 : World), (∃ ys : List Int, IsOrd k ys ∧ ys.Pairwise (Ahead (kC l) id) ∧ Row w2 w1.heap.size 3 (ints ys) ∧ wr.grownBy w2 (some w1.heap.size)) → SortedOK w N A k c l w1.heap.size w2   := fun w2 ⟨ys, h1, h2, h3, h4⟩ => by
        have e1 := order_is (by rw [HN.out]; exact h1) h2
        rw [e1] at h3
        exact ⟨h3, hsz1, hrg.grown h4 (by simp; omega), hbw.grown h4 hbw.size (fun q hq => by injection hq with hq; omega)⟩
      have HCONT := Lib.hid hcont
      have HSORT : Hid (Calls Try.prog 11 #[.slice (some ⟨w1.heap.size, 0, none⟩) k k, .func (.func 12) #[] #[.pointer (some ⟨w.heap.size, 0, none⟩)]] wr fun e w2 => e = .returned (.tuple #[]) ∧ SortedOK w N A k c l w1.heap.size w2) := by
        by_cases hz : k = 0
        · subst hz
          refine (sortNone (some ⟨w1.heap.size, 0, none⟩) 0 _ wr).mono ?_
          rintro e w2 ⟨rfl, rfl⟩
          exact ⟨rfl, HCONT.out _ ⟨_, isOrd_of_perm (List.Perm.refl _), by simp [upto], hrf, World.grownBy.refl _ _⟩⟩
        · have hA2 := hA.below hbw (Nat.le_refl _)
          refine (sortStableF (M := k - 1) (f := 12) (cb := #[.pointer (some ⟨w.heap.size, 0, none⟩)]) (c := kC l) (Row.owns (base := w.heap.size) hrf (upto_len k) (by omega) (by simp only [maxLen]; omega)) (by omega) (by omega)
            (fun x hx => by have := (mem_upto k x).1 hx; omega) (upto_rising k) (weak_key fun i : Fin (k - 1 + 1) => wOf l i.val) (fun _ _ => rfl)
            (fun W hgW x y hx0 hx1 hy0 hy1 => by
              have hAW : Cells W W.heap.size A (edges l) := (hA2.keep fun p hp => World.cell?_of_block (hgW.block p.block (by have := hbw.size; omega) (by intro e; injection e with e; omega))).more (by have := hgW.size; have := hbw.size; omega)
              exact kLess A k c w.heap.size l x y W hAW HN.out (by rw [World.cell?_of_block (hgW.block w.heap.size (by have := hrg.lt; omega) (by intro e; injection e with e; omega))]; exact hrg.cell 1) hx0 (by omega) hy0 (by omega) (by omega))).mono ?_
          rintro e w2 ⟨rfl, ys, hp, hs, ho, hgw⟩
          refine ⟨rfl, HCONT.out _ ⟨ys, isOrd_of_perm hp, hs, ?_, hgw⟩⟩
          rcases ho.2 with ⟨h0, _⟩ | ⟨g', cap', cur, hv, hb', hh, hnc, hcm, hcs, htk⟩
          · simp at h0
          · simp only [Value.slice.injEq, Option.some.injEq, Addr.mk.injEq, and_true, true_and] at hv
            obtain ⟨rfl, rfl⟩ := hv
            unfold Row
            rw [hh]
            have e2 : cur.toList = ints ys := by
              rw [← htk, List.take_of_length_le (by rw [Array.length_toList]; omega)]
            rw [← e2]
      clear hcont HCONT hrf hbw hrg hr hb HB1 HR1
      go_wp2_with fail
      refine HSORT.out.mono ?_
      rintro e w2 ⟨rfl, hrow, _, hrg, hbw⟩
      have HROW := Lib.hid hrow
      have HRG := Lib.hid hrg
      have HB2 := Lib.hid hbw
      have hq0 := hrg.cell 0
      have c3 := Lib.hid (new_ok N w2 (by omega))
      have hsz2 := hbw.size
      clear hrow hrg hbw HSORT
      go_wp2_with fail
      refine c3.out.mono ?_
      rintro e w3 ⟨p, U, cu, S, cs, rfl, hu, hb3⟩
      have HU := Lib.hid hu
      have HB3 : Hid (Below w.heap.size w w3) := HB2.out.trans (hb3.mono hsz2)
      have HROW3 := Lib.hid (HROW.out.step hb3)
      have HRG3 := Lib.hid (HRG.out.step hb3)
      have HG2 : Hid (w1.heap.size < w2.heap.size) := HROW.out.lt
      have hw23 : w2.heap.size ≤ w3.heap.size := hb3.size
      clear hu hb3 c3 HB2 HROW HRG hq0
      have HUB := Lib.hid HU.out.base_le
      have HKL : Hid ((kord l).length = k) := by show _ = _; rw [(kord_ord l).1]; exact HN.out
      have hsz3 := HB3.out.size
      go_wp2
      go_loopw [47, 9] (fun i v wr => ∃ (j m : Nat) (R : Nat → Nat) (V : Option Addr) (cv : Nat), i = .int .i64 (j : Int) ∧ j ≤ k ∧ v = .slice V m cv ∧ m ≤ j ∧ m = (keptK N l j).length ∧ Hid (UG wr w2.heap.size p N U cu S cs R) ∧ Hid (Gen N (((kord l).take j).map (eOf l)) R) ∧ Hid (wr.ownsRow w3.heap.size 3 1 (.slice V m cv) m (ints (keptK N l j))) ∧
        Hid (Row wr w1.heap.size 3 (ints (kord l))) ∧ Hid (Row wr w.heap.size 24 [.int .i64 (N : Int), .slice A k c]) ∧ Hid (Below w.heap.size w wr) ∧ Hid (w3.heap.size ≤ wr.heap.size)) (fun i _ _ => k - (intOf i).toNat)
      case atStart => exact ⟨0, 0, id, none, 0, rfl, by omega, rfl, by omega, by simp [keptK], HU.out, by show Gen _ _ _; simpa using Gen.start N, by show World.ownsRow _ _ _ _ _ _ _; simpa [keptK, ints] using World.ownsRow_nil _ _ _ _, HROW3.out, HRG3.out, HB3.out, Nat.le_refl _⟩
      case round =>
        clear HU HROW3 HRG3 HB3
        obtain ⟨j, m, R, V, cv, rfl, hj, rfl, hmj, hm, HU, HGEN, HO, HROW, HRG, HB, HSZ⟩ := hrel
        have HM := Lib.hid hm
        clear hm
        by_cases hjk : j < k
        · have hjz : (j : Int) < k := by omega
          obtain ⟨y, hy⟩ : ∃ y, (kord l)[j]? = some y := ⟨(kord l)[j]'(by rw [HKL.out]; exact hjk), List.getElem?_eq_getElem _⟩
          have hyr := (kord_ord l).2.1 y (List.mem_of_getElem? hy)
          rw [HN.out] at hyr
          obtain ⟨q, rfl⟩ : ∃ q : Nat, y = q := ⟨y.toNat, by omega⟩
          have hqk : q < k := by omega
          have hqz : (q : Int) < k := by omega
          have hoc := HROW.out.cell j
          rw [show (ints (kord l))[j]? = some (.int .i64 (q : Int)) by simp [ints, hy]] at hoc
          obtain ⟨b, off, ea, eb, et, rfl, hbb, hx, hc0, hc1, _⟩ := edges_at hA (show q < l.length by rw [HN.out]; exact hqk)
          obtain ⟨⟨ha0, ha1⟩, ⟨hb0, hb1⟩, _⟩ := HED.out _ (List.mem_of_getElem? hx)
          simp only at ha0 ha1 hb0 hb1
          have hin : inG N ea eb = true := inG_true (by omega)
          have heo : eOf l (q : Int) = (ea, eb) := by unfold eOf; rw [eAt_of hx]
          have hji := join_is HG.out hy HGEN.out
          have hks := keptK_step (N := N) hy
          have htk : ((kord l).take (j + 1)).map (eOf l) = ((kord l).take j).map (eOf l) ++ [(ea, eb)] := by rw [take_at hy, List.map_append, ← heo]; rfl
          rw [heo] at hji
          have HJI := Lib.hid hji
          have HKS := Lib.hid hks
          have HTK := Lib.hid htk
          have HC0 := Lib.hid hc0
          have HC1 := Lib.hid hc1
          rw [← HB.out.cell hbb] at hc0 hc1
          have hq1 := HRG.out.cell 1
          have hud : UG wr.drew w2.heap.size p N U cu S cs R := HU.out.keeps (Keeps.drew (Keeps.refl [] _)) (fun _ _ => by simp)
          have HUD := Lib.hid hud
          have cj := Lib.hid (joinG ea eb hud HGEN.out)
          have HIN := Lib.hid hin
          have hw2 : w.heap.size ≤ w2.heap.size := hsz2
          have hw3 : w1.heap.size < w2.heap.size := HG2.out
          have hwr : w.heap.size ≤ wr.heap.size := HB.out.size
          clear hud hx hy hyr heo hji hks htk hin hA
          go_wp2_with fail
          go_region_held3 (fun W => W.cell? ⟨w.heap.size, 1, none⟩ = some (.slice (some ⟨b, off, none⟩) k c) ∧ W.cell? ⟨b, off + q * 3, none⟩ = some (.int .i64 ea) ∧ W.cell? ⟨b, off + q * 3 + 1, none⟩ = some (.int .i64 eb)) (first | go_keep | (go_split_ands; refine ⟨?_, ?_, ?_⟩ <;> assumption))
            (first | (go_at_call 8; refine cj.out.mono ?_; rintro e w8 ⟨t, R', rfl, hu', hg', hk', hroots, hiff⟩; rw [HIN.out]; have HIFF := Lib.hid hiff; have HU' := Lib.hid hu'; have HG' := Lib.hid hg'; have HK' := Lib.hid hk'; clear hu' hg' hk' hroots hiff; have HB' := Lib.hid (HB.out.trans ((Below.refl _ _).drew.trans (HK'.out.below (B := w.heap.size) (fun x hx => by have := (HUB.out x hx).1; omega) hwr))); have HRG' := Lib.hid (HK'.out.row (show Row wr.drew w.heap.size 24 [.int .i64 (N : Int), .slice (some ⟨b, off, none⟩) k c] from HRG.out) (fun hm => by have := (HUB.out _ hm).1; omega)); have z1 := HRG'.out.cell 1; have z2 := (HB'.out.cell (p := ⟨b, off + q * 3, none⟩) hbb).trans HC0.out; have z3 := (HB'.out.cell (p := ⟨b, off + q * 3 + 1, none⟩) hbb).trans HC1.out))
          have HO' : Hid (w8.ownsRow w3.heap.size 3 1 (.slice V m cv) m (ints (keptK N l j))) := HK'.out.own (show wr.drew.ownsRow w3.heap.size 3 1 (.slice V m cv) m (ints (keptK N l j)) from HO.out) (fun g hg hm' => by have := (HO.out.lt g hg).1; have := (HUB.out _ hm').2; omega)
          have HROW' : Hid (Row w8 w1.heap.size 3 (ints (kord l))) := HK'.out.row (show Row wr.drew w1.heap.size 3 (ints (kord l)) from HROW.out) (fun hm' => by have := (HUB.out _ hm').1; omega)
          have HGEN' : Hid (Gen N (((kord l).take (j + 1)).map (eOf l)) R') := by show Gen _ _ _; rw [HTK.out]; exact HG'.out
          have HSZ' : Hid (w3.heap.size ≤ w8.heap.size) := Nat.le_trans HSZ.out (by have := HK'.out.size; exact this)
          have HT : Hid (t = true ↔ inF N l (q : Int) = true) := by
            show _ ↔ _
            rw [HIFF.out, HJI.out]
            exact ⟨fun h => h.2, fun h => ⟨HIN.out, h⟩⟩
          clear z1 z2 z3 hc0 hc1 hq1 hoc cj HK' HU HGEN HO HROW HRG HB HG' HSZ
          cases t with
          | true =>
            have HKS2 : Hid (keptK N l (j + 1) = keptK N l j ++ [(q : Int)]) := by show _ = _; rw [HKS.out, if_pos (HT.out.1 rfl)]
            have hnew : ∀ i : Nat, (w8.alloc (.cells #[.int .i64 (q : Int)] 3)).cell? ⟨w8.heap.size, i, none⟩ = ([.int .i64 (q : Int)] : List Value)[i]? := fun i => (Row.new w8 3 #[.int .i64 (q : Int)]).cell i
            have HNEW := Lib.hid hnew
            have hsz8 : w3.heap.size ≤ w8.heap.size := HSZ'.out
            have hm1 : (m + 1) * 8 ≤ 140737488355328 := by omega
            have hm2 : m + 1 ≤ 9223372036854775807 := by omega
            clear hnew
            go_wp2_with (at_builtin; refine wp_push _ rfl (.tmp 69) (.tmp 71) 26 rfl w3.heap.size 3 1 8 _ Try.underlying26 info_int rfl (by omega) V m cv (ints (keptK N l j)) rfl (HO'.out.alloc _) w8.heap.size 1 [.int .i64 (q : Int)] rfl rfl (fun i u hu => (HNEW.out i).trans hu) (by intro u hu; simp at hu; subst hu; rfl) hm1 hm2 (by simp; omega) ?_; intro g1 c1 w9 ho9 hb9 hg9 hgr9 hat9)
            have HO9 := Lib.hid ho9
            have hgb : ∀ g, (Value.slice V m cv).ownBlock = some g → w3.heap.size ≤ g := fun g hg => (HO'.out.lt g hg).1
            have HU9 : Hid (UG w9 w2.heap.size p N U cu S cs R') := (HU'.out.keeps (Keeps.alloc (Keeps.refl [] _) _) (fun _ _ => by simp)).keeps (bs := match (Value.slice V m cv).ownBlock with | some g => [g] | none => []) (Keeps.ofGrown hgr9 (fun g hg => by rw [hg]; simp)) (fun x hx hm' => by
              cases hV : (Value.slice V m cv).ownBlock with
              | none => rw [hV] at hm'; simp at hm'
              | some g => rw [hV] at hm'; simp at hm'; have := hgb g hV; have := (HUB.out x hx).2; omega)
            have HROW9 : Hid (Row w9 w1.heap.size 3 (ints (kord l))) := (HROW'.out.alloc _).grown hgr9 (fun e => by have := hgb _ e.symm; have := HB'.out.size; omega)
            have HRG9 : Hid (Row w9 w.heap.size 24 [.int .i64 (N : Int), .slice (some ⟨b, off, none⟩) k c]) := (HRG'.out.alloc _).grown hgr9 (fun e => by have := hgb _ e.symm; omega)
            have HB9 : Hid (Below w.heap.size w w9) := (HB'.out.alloc (by have := HB'.out.size; omega) _).trans (hb9.mono (by omega))
            have HSZ9 : Hid (w3.heap.size ≤ w9.heap.size) := Nat.le_trans hsz8 (Nat.le_trans (by simp) hb9.size)
            clear ho9 hb9 hgr9 hat9 hgb
            go_roundw
            case rel =>
              refine ⟨j + 1, m + 1, R', _, c1, by go_num, by omega, rfl, by omega, by rw [HKS2.out, List.length_append, ← HM.out]; rfl, HU9.out, HGEN'.out, ?_, HROW9.out, HRG9.out, HB9.out, HSZ9.out⟩
              show World.ownsRow _ _ _ _ _ _ _
              rw [HKS2.out, ints_append]; exact HO9.out
            case measure => simp [intOf]; omega
          | false =>
            have HKS2 : Hid (keptK N l (j + 1) = keptK N l j) := by show _ = _; rw [HKS.out, if_neg (fun h => by have := HT.out.2 h; cases this), List.append_nil]
            go_wp2
            go_roundw
            case rel =>
              refine ⟨j + 1, m, R', V, cv, by go_num, by omega, rfl, by omega, by rw [HKS2.out]; exact HM.out, HU'.out, HGEN'.out, ?_, HROW'.out, HRG'.out, HB'.out, HSZ'.out⟩
              show World.ownsRow _ _ _ _ _ _ _
              rw [HKS2.out]; exact HO'.out
            case measure => simp [intOf]; omega
        · have hjz : ¬ (j : Int) < k := by omega
          have hjk2 : j = k := by omega
          subst hjk2
          have HF : Hid (keptK N l j = (kord l).filter (inF N l)) := by
            show _ = _
            rw [← keptK_all, HN.out]
          have ho := HO.out
          rw [HF.out] at ho
          have c4 := sortInts ho (by omega)
          have C4 := Lib.hid c4
          have HML : Hid (m = (forest N l).length) := by
            show _ = _
            unfold forest
            rw [HM.out, HF.out, risen_len]
          have HO2 := Lib.hid ho
          clear ho c4 HROW HRG HU HGEN HO
          go_wp2_with fail
          refine C4.out.mono ?_
          rintro e w8 ⟨rfl, ho8, hgr8⟩
          have HB8 : Hid (Below w.heap.size w w8) := HB.out.grown hgr8 HB.out.size (fun g hg => by have := (HO2.out.lt g hg).1; omega)
          have HFIN : Hid (KruskalOK w N l (.returned (.tuple #[.slice V m cv, .nilIface])) w8) := by
            refine ⟨V, cv, by rw [HML.out], ?_, HB8.out⟩
            rw [← HML.out]
            exact own_base ho8 (by omega)
          clear ho8 hgr8 C4 HB HO2 HML
          go_wp2
          go_ret2
          exact HFIN.out
end Go.Proofs.Ytejbilcofbjpiaa
