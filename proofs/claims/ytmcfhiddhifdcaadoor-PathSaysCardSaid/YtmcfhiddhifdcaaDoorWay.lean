/- What path.Way answers: of the shortest ways the one over the least nodes. Conditions: lengths are such that slices can have. -/
import Derived.Test.YtmcfhiddhifdcaaDoorFar
import Derived.Test.YtmcfhiddhifdcaaDoorWayP
namespace Go.Proofs.YtmcfhiddhifdcaaDoor
open Go.RowKit
theorem row_owns {w : World} {g n base : Nat} {xs : List Int} {t : TypeId} (h : Row w g t (ints xs)) (hl : xs.length = n) (hb : base ≤ g) (hm : n ≤ maxLen) : w.ownsRow base t 1 (.slice (some ⟨g, 0, none⟩) n n) n (ints xs) :=
  ⟨by simp [ints, hl], Or.inr ⟨g, n, (ints xs).toArray, rfl, hb, h, Nat.le_refl _, hm, by simp [ints, hl], by rw [List.take_of_length_le (by simp [ints, hl])]⟩⟩
def WayOK (w : World) (N : Nat) (l : List Edge) (s t : Int) (e : Ending) (w' : World) : Prop :=
  ∃ D, Short (arcs true l) t N D ∧ Below w.heap.size w w' ∧ ((D s = none ∧ e = .returned (.tuple #[.slice none 0 0, .iface 53 (.int .i64 5)])) ∨
    ∃ (wt : Int) (k g c : Nat), D s = some (wt, (k : Int)) ∧ k ≤ N ∧ e = .returned (.tuple #[.slice (some ⟨g, 0, none⟩) (k + 1) c, .nilIface]) ∧ w'.ownsRow w.heap.size 3 1 (.slice (some ⟨g, 0, none⟩) (k + 1) c) (k + 1) (ints (s :: wayFrom l D k s)))
set_option maxHeartbeats 2000000 in
theorem way_bad (N : Int) (A : Option Addr) (n c : Nat) (l : List Edge) (s t : Int) (w : World) (hA : Cells w w.heap.size A (edges l)) (hn : l.length = n) (hm : n ≤ 9223372036854775807) (he : pathErr N l [s, t] ≠ 0) :
    Calls Tryd.prog 10 #[graphV N A n c, .int .i64 s, .int .i64 t] w fun e w' => e = .returned (.tuple #[.slice none 0 0, .iface 53 (.int .i64 (pathErr N l [s, t]))]) ∧ Below w.heap.size w w' := by
  have HF := Lib.hid (errV_bad he)
  have HB0 : Below w.heap.size w ((w.alloc (.cells #[.int .i64 N, .slice A n c] 24)).alloc (.cells #[.int .i64 s, .int .i64 t] 3)) := ((Below.refl _ _).alloc (Nat.le_refl _) _).alloc (by simp) _
  have hR1 := (Row.new (w.alloc (.cells #[.int .i64 N, .slice A n c] 24)) 3 #[.int .i64 s, .int .i64 t]).cells
  have e1 : (w.alloc (.cells #[.int .i64 N, .slice A n c] 24)).heap.size = w.heap.size + 1 := by simp
  rw [e1] at hR1
  have c1 := pathCheck N A n c l (some ⟨w.heap.size + 1, 0, none⟩) 2 2 [s, t] _ (hA.step HB0) hn hm hR1 rfl (by omega)
  unfold graphV at c1 ⊢
  have C1 := Lib.hid c1
  have HB := Lib.hid HB0
  clear he hn hA HB0 c1 hR1 e1
  go_enter Tryd.func10, Tryd.ntmps10
  go_wp2_with fail
  refine C1.out.mono ?_
  rintro e w1 ⟨rfl, hb1⟩
  rw [HF.out]
  have HB1 : Hid (Below w.heap.size w w1) := HB.out.trans (hb1.mono (by simp; omega))
  clear hb1 C1 HB
  go_wp2
  go_ret2
  exact ⟨rfl, HB1.out⟩
set_option maxHeartbeats 8000000 in
set_option maxRecDepth 100000 in
theorem way_ok (N : Nat) (A : Option Addr) (n c : Nat) (l : List Edge) (s t : Nat) (w : World) (hA : Cells w w.heap.size A (edges l)) (hn : l.length = n) (hm : n ≤ 9223372036854775807) (hg : graphErr N l = 0) (hs : s < N) (ht : t < N) :
    Calls Tryd.prog 10 #[graphV N A n c, .int .i64 (s : Int), .int .i64 (t : Int)] w (WayOK w N l s t) := by
  have hp0 := pathErr_of (xs := [(s : Int), (t : Int)]) hg (by intro x hx; simp at hx; omega)
  obtain ⟨⟨_, hN1⟩, _, hed⟩ := graphErr_ok hg
  have hN : N ≤ 16 := by omega
  have HED := Lib.hid hed
  have HB0 : Below w.heap.size w ((w.alloc (.cells #[.int .i64 (N : Int), .slice A n c] 24)).alloc (.cells #[.int .i64 (s : Int), .int .i64 (t : Int)] 3)) := ((Below.refl _ _).alloc (Nat.le_refl _) _).alloc (by simp) _
  have HR0 : Hid (Row ((w.alloc (.cells #[.int .i64 (N : Int), .slice A n c] 24)).alloc (.cells #[.int .i64 (s : Int), .int .i64 (t : Int)] 3)) w.heap.size 24 [.int .i64 (N : Int), .slice A n c]) := (Row.new w _ #[.int .i64 (N : Int), .slice A n c]).alloc _
  have hR1 := (Row.new (w.alloc (.cells #[.int .i64 (N : Int), .slice A n c] 24)) 3 #[.int .i64 (s : Int), .int .i64 (t : Int)]).cells
  have e1 : (w.alloc (.cells #[.int .i64 (N : Int), .slice A n c] 24)).heap.size = w.heap.size + 1 := by simp
  rw [e1] at hR1
  have c1 := pathCheck N A n c l (some ⟨w.heap.size + 1, 0, none⟩) 2 2 [(s : Int), (t : Int)] _ (hA.step HB0) hn hm hR1 rfl (by omega)
  rw [hp0, errV_zero] at c1
  unfold graphV at c1 ⊢
  have C1 := Lib.hid c1
  have HB := Lib.hid HB0
  have HN := Lib.hid hn
  have HGE := Lib.hid hg
  clear hn hg HB0 c1 hR1 e1 hp0 hed hN1
  go_enter Tryd.func10, Tryd.ntmps10
  go_wp2_with fail
  refine C1.out.mono ?_
  rintro e w1 ⟨rfl, hb1⟩
  have HB1 : Hid (Below w.heap.size w w1) := HB.out.trans (hb1.mono (by simp; omega))
  have HR1 := Lib.hid (HR0.out.step hb1)
  have c2 := search_ N A n c l t true w1 (hA.below HB1.out (Nat.le_refl _) |>.more HB1.out.size) HN.out HGE.out ht
  unfold graphV at c2
  have C2 := Lib.hid c2
  have hq0 := HR1.out.cell 0
  have hq1 := HR1.out.cell 1
  have hsz := HB1.out.size
  clear hb1 C1 HB HR0 c2
  go_wp2_with fail
  refine C2.out.mono ?_
  rintro e w2 ⟨O, outs, rfl, hol, hro, hsh, hww, hb2, hO⟩
  have HB2 : Hid (Below w.heap.size w w2) := HB1.out.trans (hb2.mono hsz)
  have HR2 := Lib.hid (HR1.out.step hb2)
  have HRO := Lib.hid hro
  have HSH := Lib.hid hsh
  have HWW := Lib.hid hww
  have HOL := Lib.hid hol
  have HOO : Hid (O ≠ w.heap.size) := by have := HR1.out.lt; show O ≠ w.heap.size; omega
  have hsz2 : (s : Int) < N := by omega
  obtain ⟨ow, how⟩ : ∃ z, z = outs[s]!.weight := ⟨_, rfl⟩
  have hco := HRO.out.cell (s * 3)
  rw [(fr_get (gget outs (show s < outs.length by rw [HOL.out]; exact hs))).1, ← how] at hco
  have HOW := Lib.hid how
  clear hro hsh hww hol hb2 C2 hq0 hq1 HR1 HB1 how
  by_cases hneg : ow < 0
  · have HN0 : Hid (outF outs (s : Int) = none) := by
      show _ = _
      unfold outF
      rw [Int.toNat_natCast, if_neg (fun h => by rw [← HOW.out] at h; omega)]
    go_wp2
    go_ret2
    exact ⟨_, HSH.out, HB2.out, Or.inl ⟨HN0.out, rfl⟩⟩
  have hD0 : outF outs (s : Int) = some (ow, outs[s]!.edges) := by
    unfold outF
    rw [Int.toNat_natCast, if_pos ⟨by omega, by rw [HOL.out]; exact hs, by rw [← HOW.out]; omega⟩, ← HOW.out]
  obtain ⟨_, _, ⟨hk0, hk1⟩, _⟩ := HSH.out.sound _ _ _ hD0
  obtain ⟨k, hk⟩ : ∃ k : Nat, outs[s]!.edges = k := ⟨outs[s]!.edges.toNat, by omega⟩
  rw [hk] at hD0 hk1
  have HD0 := Lib.hid hD0
  have hkN : k ≤ N := by omega
  clear hD0 hk0 hk1 hk
  go_upto_region 8 with fail
  have hR3 : Row (w2.alloc (.cells #[.int .i64 (s : Int)] 3)) w2.heap.size 3 (ints [(s : Int)]) := Row.new _ _ _
  have hWS : w.heap.size ≤ w2.heap.size := HB2.out.size
  have HOW3 : Hid ((w2.alloc (.cells #[.int .i64 (s : Int)] 3)).ownsRow w.heap.size 3 1 (.slice (some ⟨w2.heap.size, 0, none⟩) 1 1) 1 (ints [(s : Int)])) := row_owns hR3 rfl hWS (by simp [maxLen])
  have HR3 : Hid (Row (w2.alloc (.cells #[.int .i64 (s : Int)] 3)) w.heap.size 24 [.int .i64 (N : Int), .slice A n c]) := HR2.out.alloc _
  have HRO3 : Hid (Row (w2.alloc (.cells #[.int .i64 (s : Int)] 3)) O 52 (frRow outs)) := HRO.out.alloc _
  have HB3 : Hid (Below w.heap.size w (w2.alloc (.cells #[.int .i64 (s : Int)] 3))) := HB2.out.alloc hWS _
  clear hR3 HR2 HRO HB2 hco HOW
  obtain ⟨w2s, hw2s⟩ : ∃ z, z = w2.heap.size := ⟨_, rfl⟩
  rw [← hw2s] at HOW3 ⊢
  generalize w2.alloc (.cells #[.int .i64 (s : Int)] 3) = w3 at HOW3 HR3 HRO3 HB3 ⊢
  clear hw2s hWS hsz
  go_loopg [1, 10] k (fun gh sv ov wr => ∃ (ghr : Nat) (u : Nat) (wu : Int) (done : List Int) (g5 c5 : Nat), ghr = gh ∧ sv = .int .i64 (u : Int) ∧ ov = .slice (some ⟨g5, 0, none⟩) done.length c5 ∧ u < N ∧ ghr ≤ k ∧ Hid (outF outs (u : Int) = some (wu, (ghr : Int))) ∧ done.length + ghr = k + 1 ∧ Hid (done ++ wayFrom l (outF outs) ghr (u : Int) = (s : Int) :: wayFrom l (outF outs) k (s : Int)) ∧
    Hid (wr.ownsRow w.heap.size 3 1 (.slice (some ⟨g5, 0, none⟩) done.length c5) done.length (ints done)) ∧ Hid (Row wr O 52 (frRow outs)) ∧ Hid (Row wr w.heap.size 24 [.int .i64 (N : Int), .slice A n c]) ∧ Hid (Below w.heap.size w wr))
  case atStart => exact ⟨k, s, ow, [(s : Int)], w2s, 1, rfl, rfl, rfl, hs, Nat.le_refl _, HD0.out, by simp; omega, rfl, HOW3.out, HRO3.out, HR3.out, HB3.out⟩
  case round =>
    clear HOW3 HRO3 HR3 HB3
    obtain ⟨gh, u, wu, done, g5, c5, rfl, rfl, rfl, hu, hgk, HU, hdl, HDN, HOWN, HRO, HR, HB⟩ := hrel
    have hsz5 := HB.out.size
    by_cases hut : u = t
    · subst hut
      have hg0 : gh = 0 := by
        have := HSH.out.first
        rw [HU.out] at this
        injection this with this
        injection this with _ this
        omega
      subst hg0
      have hdl' : done.length = k + 1 := by omega
      have heq : ((u : Int) == (u : Int)) = true := beq_self_eq_true _
      have HF : Hid (WayOK w N l s u (.returned (.tuple #[.slice (some ⟨g5, 0, none⟩) done.length c5, .nilIface])) wr) := by
        refine ⟨_, HSH.out, HB.out, Or.inr ⟨ow, k, g5, c5, HD0.out, hkN, by rw [hdl'], ?_⟩⟩
        have h1 := HDN.out
        simp only [wayFrom, List.append_nil] at h1
        rw [← h1]
        have h2 := HOWN.out
        rw [hdl'] at h2
        exact h2
      clear hdl hdl'
      go_wp2
      go_ret2
      exact HF.out
    · have hne : ((u : Int) == (t : Int)) = false := beq_eq_false_iff_ne.2 (by omega)
      have hg1 : 0 < gh := by
        rcases Nat.eq_zero_or_pos gh with h0 | h0
        · exfalso
          subst h0
          have := ((HSH.out.sound _ _ _ HU.out).1.zero.2 rfl)
          omega
        · exact h0
      obtain ⟨r, rfl⟩ : ∃ r, gh = r + 1 := ⟨gh - 1, by omega⟩
      have hnx := next_is HSH.out (fun e he => (HED.out e he).2.1.1) HU.out (by omega)
      have hwu := (HSH.out.sound _ _ _ HU.out).2.2
      have hwub : wu ≤ 16000 ∧ 0 ≤ wu := by omega
      have HNX := Lib.hid hnx
      clear hnx hwu
      have huz : (u : Int) < N := by omega
      have hg3 := fr_get (gget outs (show u < outs.length by rw [HOL.out]; exact hu))
      have hu2 : outs[u]!.weight = wu ∧ outs[u]!.edges = ((r + 1 : Nat) : Int) := by
        have := HU.out
        unfold outF at this
        rw [Int.toNat_natCast] at this
        split at this
        · injection this with this; injection this with h1 h2; exact ⟨h1, h2⟩
        · cases this
      obtain ⟨ru, hru⟩ : ∃ z, z = ((r + 1 : Nat) : Int) := ⟨_, rfl⟩
      rw [hu2.1, hu2.2, ← hru] at hg3
      have hrub : 0 ≤ ru ∧ ru ≤ 17 := by omega
      have HRU := Lib.hid hru
      have HUW := Lib.hid hg3
      clear hg3 hu2 hut hru
      have hq1 := HR.out.cell 1
      go_wp2
      clear hq1
      go_loopw [41, 11] (fun i nx wr' => ∃ (j : Nat) (nv : Int), i = .int .i64 (j : Int) ∧ nx = .int .i64 nv ∧ j ≤ n ∧ -1 ≤ nv ∧ nv ≤ 16 ∧ Hid (nextFrom (outF outs) (u : Int) (l.drop j) nv = nextOf l (outF outs) (u : Int)) ∧
        Hid (wr'.ownsRow w.heap.size 3 1 (.slice (some ⟨g5, 0, none⟩) done.length c5) done.length (ints done)) ∧ Hid (Row wr' O 52 (frRow outs)) ∧ Hid (Row wr' w.heap.size 24 [.int .i64 (N : Int), .slice A n c]) ∧ Hid (Below w.heap.size w wr')) (fun i _ _ => n - (intOf i).toNat)
      case atStart => exact ⟨0, -1, rfl, rfl, by omega, by omega, by omega, rfl, HOWN.out, HRO.out, HR.out, HB.out⟩
      case round =>
        clear HOWN HRO HR HB
        obtain ⟨j, nv, rfl, rfl, hj, hnv0, hnv1, HI, HOWN, HRO, HR, HB⟩ := hrel
        have hsz6 := HB.out.size
        by_cases hjn : j < n
        · have hjz : (j : Int) < n := by omega
          obtain ⟨b, off, ea, eb, et, rfl, hbb, hx, hc0, hc1, hc2⟩ := edges_at hA (show j < l.length by rw [HN.out]; exact hjn)
          obtain ⟨⟨ha0, ha1⟩, ⟨hb0, hb1⟩, ht0, ht1⟩ := HED.out _ (List.mem_of_getElem? hx)
          simp only at ha0 ha1 hb0 hb1 ht0 ht1
          rw [← HB.out.cell hbb] at hc0 hc1 hc2
          obtain ⟨v, rfl⟩ : ∃ m : Nat, eb = m := ⟨eb.toNat, by omega⟩
          have hvN : v < N := by omega
          have hvz : (v : Int) < N := by omega
          obtain ⟨ex, hex⟩ : ∃ z, z = outs[v]! := ⟨_, rfl⟩
          have hg4 := fr_get (gget outs (show v < outs.length by rw [HOL.out]; exact hvN))
          rw [← hex] at hg4
          have hwv := HWW.out v hvN
          rw [← hex] at hwv
          have hDv : 0 ≤ ex.weight → outF outs (v : Int) = some (ex.weight, ex.edges) := fun h0 => by
            unfold outF
            rw [Int.toNat_natCast, if_pos ⟨by omega, by rw [HOL.out]; exact hvN, by rw [← hex]; exact h0⟩, ← hex]
          have hDv' : ex.weight < 0 → outF outs (v : Int) = none := fun h0 => by
            unfold outF
            rw [Int.toNat_natCast, if_neg (fun h => by rw [← hex] at h; omega)]
          obtain ⟨xw, xe, xv⟩ := ex
          simp only at hg4 hwv hDv hDv'
          have hbd : xw ≤ 16000 ∧ (0 ≤ xw → xe ≤ 16 ∧ 0 ≤ xe) := by
            by_cases h0 : 0 ≤ xw
            · have := (HSH.out.sound _ _ _ (hDv h0)).2.2
              omega
            · omega
          have hd0 := HRO.out.cell (v * 3)
          have hd1 := HRO.out.cell (v * 3 + 1)
          have hd2 := HRO.out.cell (v * 3 + 2)
          rw [hg4.1] at hd0
          rw [hg4.2.1] at hd1
          rw [hg4.2.2] at hd2
          have hOlt := HRO.out.lt
          have hd0' : ∀ Q, (wr.alloc Q).cell? ⟨O, v * 3, none⟩ = some (.int .i64 xw) := fun Q => (World.cell?_alloc_lt _ _ ⟨O, v * 3, none⟩ hOlt).trans hd0
          have hd1' : ∀ Q, (wr.alloc Q).cell? ⟨O, v * 3 + 1, none⟩ = some (.int .i64 xe) := fun Q => (World.cell?_alloc_lt _ _ ⟨O, v * 3 + 1, none⟩ hOlt).trans hd1
          have hd2' : ∀ Q, (wr.alloc Q).cell? ⟨O, v * 3 + 2, none⟩ = some (.int .i64 xv) := fun Q => (World.cell?_alloc_lt _ _ ⟨O, v * 3 + 2, none⟩ hOlt).trans hd2
          have hstep : stepB (outF outs) (u : Int) ⟨ea, (v : Int), et⟩ = true ↔ ea = (u : Int) ∧ 0 ≤ xw ∧ xw + et = wu ∧ xe + 1 = ru := by
            rw [stepB_iff HU.out, ← HRU.out]
            constructor
            · rintro ⟨h1, h2⟩
              by_cases h0 : 0 ≤ xw
              · rw [hDv h0] at h2
                simp only [Option.some.injEq, Prod.mk.injEq] at h2
                exact ⟨h1, h0, by omega, by omega⟩
              · rw [hDv' (by omega)] at h2; cases h2
            · rintro ⟨h1, h2, h3, h4⟩
              refine ⟨h1, ?_⟩
              show outF outs (v : Int) = _
              rw [hDv h2]
              simp only [Option.some.injEq, Prod.mk.injEq]
              omega
          have HSTEP := Lib.hid hstep
          have HX := Lib.hid (drop_at hx)
          have hyes : stepB (outF outs) (u : Int) ⟨ea, (v : Int), et⟩ = true → (nv < 0 ∨ (v : Int) < nv) → nextFrom (outF outs) (u : Int) (l.drop (j + 1)) (v : Int) = nextOf l (outF outs) (u : Int) := fun h1 h2 => by
            rw [← HI.out, HX.out]; simp only [nextFrom]; rw [if_pos ⟨h1, h2⟩]
          have hno : ¬ (stepB (outF outs) (u : Int) ⟨ea, (v : Int), et⟩ = true ∧ (nv < 0 ∨ (v : Int) < nv)) → nextFrom (outF outs) (u : Int) (l.drop (j + 1)) nv = nextOf l (outF outs) (u : Int) := fun h1 => by
            rw [← HI.out, HX.out]; simp only [nextFrom]; rw [if_neg h1]
          have HYES := Lib.hid hyes
          have HNO := Lib.hid hno
          clear hyes hno hstep hDv hDv' hwv hg4 hex hx
          go_upto_region 14 with fail
          have hE0 : Row ((wr.alloc (.cells #[.int .i64 ea, .int .i64 (v : Int), .int .i64 et] 43)).alloc (.cells #[.int .i64 xw, .int .i64 xe, .int .i64 xv] 52)) wr.heap.size 43 [.int .i64 ea, .int .i64 (v : Int), .int .i64 et] := (Row.new wr _ #[.int .i64 ea, .int .i64 (v : Int), .int .i64 et]).alloc _
          have hX0 : Row ((wr.alloc (.cells #[.int .i64 ea, .int .i64 (v : Int), .int .i64 et] 43)).alloc (.cells #[.int .i64 xw, .int .i64 xe, .int .i64 xv] 52)) (wr.heap.size + 1) 52 [.int .i64 xw, .int .i64 xe, .int .i64 xv] := by
            have := Row.new (wr.alloc (.cells #[.int .i64 ea, .int .i64 (v : Int), .int .i64 et] 43)) 52 #[.int .i64 xw, .int .i64 xe, .int .i64 xv]
            rw [World.size_alloc] at this; exact this
          have HOWN6 : Hid (((wr.alloc (.cells #[.int .i64 ea, .int .i64 (v : Int), .int .i64 et] 43)).alloc (.cells #[.int .i64 xw, .int .i64 xe, .int .i64 xv] 52)).ownsRow w.heap.size 3 1 (.slice (some ⟨g5, 0, none⟩) done.length c5) done.length (ints done)) := (HOWN.out.alloc _).alloc _
          have HRO6 : Hid (Row ((wr.alloc (.cells #[.int .i64 ea, .int .i64 (v : Int), .int .i64 et] 43)).alloc (.cells #[.int .i64 xw, .int .i64 xe, .int .i64 xv] 52)) O 52 (frRow outs)) := (HRO.out.alloc _).alloc _
          have HR6 : Hid (Row ((wr.alloc (.cells #[.int .i64 ea, .int .i64 (v : Int), .int .i64 et] 43)).alloc (.cells #[.int .i64 xw, .int .i64 xe, .int .i64 xv] 52)) w.heap.size 24 [.int .i64 (N : Int), .slice (some ⟨b, off, none⟩) n c]) := (HR.out.alloc _).alloc _
          have HB6 : Hid (Below w.heap.size w ((wr.alloc (.cells #[.int .i64 ea, .int .i64 (v : Int), .int .i64 et] 43)).alloc (.cells #[.int .i64 xw, .int .i64 xe, .int .i64 xv] 52))) := (HB.out.alloc hsz6 _).alloc (by simp; omega) _
          clear hc0 hc1 hc2 hd0 hd1 hd2 hd0' hd1' hd2' hOlt HOWN HRO HR HB hA
          generalize (wr.alloc (.cells #[.int .i64 ea, .int .i64 (v : Int), .int .i64 et] 43)).alloc (.cells #[.int .i64 xw, .int .i64 xe, .int .i64 xv] 52) = w6 at hE0 hX0 HOWN6 HRO6 HR6 HB6 ⊢
          have he0 := hE0.cell 0
          have he1 := hE0.cell 1
          have he2 := hE0.cell 2
          have hx0 := hX0.cell 0
          have hx1 := hX0.cell 1
          have hx2 := hX0.cell 2
          have hl0 := HRO6.out.cell (u * 3)
          have hl1 := HRO6.out.cell (u * 3 + 1)
          rw [HUW.out.1] at hl0
          rw [HUW.out.2.1] at hl1
          simp only [List.getElem?_cons_zero, List.getElem?_cons_succ] at he0 he1 he2 hx0 hx1 hx2
          clear hE0 hX0
          have hlu : (u : Int) < N := by omega
          have HKEEP : Hid (∀ q : Nat, (w6.drewN q).ownsRow w.heap.size 3 1 (.slice (some ⟨g5, 0, none⟩) done.length c5) done.length (ints done) ∧ Row (w6.drewN q) O 52 (frRow outs) ∧ Row (w6.drewN q) w.heap.size 24 [.int .i64 (N : Int), .slice (some ⟨b, off, none⟩) n c] ∧ Below w.heap.size w (w6.drewN q)) := fun q => ⟨HOWN6.out, HRO6.out, HR6.out, below_drewN HB6.out q⟩
          clear HOWN6 HRO6 HR6 HB6
          by_cases a0 : ea = (u : Int)
          · skip
            have d0 : (ea == (u : Int)) = true := beq_iff_eq.2 a0
            by_cases a1 : 0 ≤ xw
            · skip
              have d1 : decide (0 ≤ xw) = true := decide_eq_true a1
              have hw1 : IntKind.i64.wrap (xw + et) = xw + et := by rw [IntKind.wrap_i64]; omega
              by_cases a2 : xw + et = wu
              · skip
                have d2 : (xw + et == wu) = true := beq_iff_eq.2 a2
                have hw2 : IntKind.i64.wrap (xe + 1) = xe + 1 := by rw [IntKind.wrap_i64]; omega
                by_cases a3 : xe + 1 = ru
                · skip
                  have d3 : (xe + 1 == ru) = true := beq_iff_eq.2 a3
                  skip
                  by_cases a4 : nv < 0
                  · skip
                    have d4 : decide (nv < 0) = true := decide_eq_true a4
                    have HN1 := Lib.hid (HYES.out (HSTEP.out.2 ⟨a0, a1, a2, a3⟩) (Or.inl a4))
                    clear a0 a1 a2 a3 a4
                    go_quiet (fail)
                    go_wp2
                    go_roundw
                    case rel => exact ⟨j + 1, (v : Int), by go_num, rfl, by omega, by omega, by omega, HN1.out, (HKEEP.out _).1, (HKEEP.out _).2.1, (HKEEP.out _).2.2.1, (HKEEP.out _).2.2.2⟩
                    case measure => simp [intOf]; omega
                  · skip
                    have d4 : decide (nv < 0) = false := decide_eq_false a4
                    by_cases a5 : (v : Int) < nv
                    · skip
                      have d5 : decide ((v : Int) < nv) = true := decide_eq_true a5
                      have HN1 := Lib.hid (HYES.out (HSTEP.out.2 ⟨a0, a1, a2, a3⟩) (Or.inr a5))
                      clear a0 a1 a2 a3 a4 a5
                      go_quiet (fail)
                      go_wp2
                      go_roundw
                      case rel => exact ⟨j + 1, (v : Int), by go_num, rfl, by omega, by omega, by omega, HN1.out, (HKEEP.out _).1, (HKEEP.out _).2.1, (HKEEP.out _).2.2.1, (HKEEP.out _).2.2.2⟩
                      case measure => simp [intOf]; omega
                    · skip
                      have d5 : decide ((v : Int) < nv) = false := decide_eq_false a5
                      have HN1 := Lib.hid (HNO.out (fun h => by have h1 := HSTEP.out.1 h.1; have h2 := h.2; omega))
                      clear a0 a1 a2 a3 a4 a5
                      go_quiet (fail)
                      go_wp2
                      go_roundw
                      case rel => exact ⟨j + 1, nv, by go_num, rfl, by omega, by omega, by omega, HN1.out, (HKEEP.out _).1, (HKEEP.out _).2.1, (HKEEP.out _).2.2.1, (HKEEP.out _).2.2.2⟩
                      case measure => simp [intOf]; omega
                · skip
                  have d3 : (xe + 1 == ru) = false := beq_eq_false_iff_ne.2 a3
                  have HN1 := Lib.hid (HNO.out (fun h => by have h1 := HSTEP.out.1 h.1; have h2 := h.2; omega))
                  clear a0 a1 a2 a3
                  go_quiet (fail)
                  go_wp2
                  go_roundw
                  case rel => exact ⟨j + 1, nv, by go_num, rfl, by omega, by omega, by omega, HN1.out, (HKEEP.out _).1, (HKEEP.out _).2.1, (HKEEP.out _).2.2.1, (HKEEP.out _).2.2.2⟩
                  case measure => simp [intOf]; omega
              · skip
                have d2 : (xw + et == wu) = false := beq_eq_false_iff_ne.2 a2
                have HN1 := Lib.hid (HNO.out (fun h => by have h1 := HSTEP.out.1 h.1; have h2 := h.2; omega))
                clear a0 a1 a2
                go_quiet (fail)
                go_wp2
                go_roundw
                case rel => exact ⟨j + 1, nv, by go_num, rfl, by omega, by omega, by omega, HN1.out, (HKEEP.out _).1, (HKEEP.out _).2.1, (HKEEP.out _).2.2.1, (HKEEP.out _).2.2.2⟩
                case measure => simp [intOf]; omega
            · skip
              have d1 : decide (0 ≤ xw) = false := decide_eq_false a1
              have HN1 := Lib.hid (HNO.out (fun h => by have h1 := HSTEP.out.1 h.1; have h2 := h.2; omega))
              clear a0 a1
              go_quiet (fail)
              go_wp2
              go_roundw
              case rel => exact ⟨j + 1, nv, by go_num, rfl, by omega, by omega, by omega, HN1.out, (HKEEP.out _).1, (HKEEP.out _).2.1, (HKEEP.out _).2.2.1, (HKEEP.out _).2.2.2⟩
              case measure => simp [intOf]; omega
          · skip
            have d0 : (ea == (u : Int)) = false := beq_eq_false_iff_ne.2 a0
            have HN1 := Lib.hid (HNO.out (fun h => by have h1 := HSTEP.out.1 h.1; have h2 := h.2; omega))
            clear a0
            go_quiet (fail)
            go_wp2
            go_roundw
            case rel => exact ⟨j + 1, nv, by go_num, rfl, by omega, by omega, by omega, HN1.out, (HKEEP.out _).1, (HKEEP.out _).2.1, (HKEEP.out _).2.2.1, (HKEEP.out _).2.2.2⟩
            case measure => simp [intOf]; omega
        · have hjz : ¬ (j : Int) < n := by omega
          have hnx : nv = nextOf l (outF outs) (u : Int) := by
            have h := HI.out
            rw [drop_end (by rw [HN.out]; omega)] at h; exact h
          obtain ⟨ee, hee, he1, he2, he3, _⟩ := HNX.out
          have hnn := (HED.out ee hee).2.1
          rw [he2, ← hnx] at hnn
          obtain ⟨v, rfl⟩ : ∃ m : Nat, nv = m := ⟨nv.toNat, by omega⟩
          have hvN : v < N := by omega
          have HU2 : Hid (outF outs (v : Int) = some (wu - ee.weight, (r : Int))) := by
            show _ = _
            rw [hnx, he3]; congr 2; omega
          have HDN2 : Hid ((done ++ [(v : Int)]) ++ wayFrom l (outF outs) r (v : Int) = (s : Int) :: wayFrom l (outF outs) k (s : Int)) := by
            show _ = _
            rw [← HDN.out, List.append_assoc]
            simp only [wayFrom, ← hnx, List.singleton_append]
          have hnew : ∀ i : Nat, (wr.alloc (.cells #[.int .i64 (v : Int)] 3)).cell? ⟨wr.heap.size, i, none⟩ = ([.int .i64 (v : Int)] : List Value)[i]? := fun i => (Row.new wr 3 #[.int .i64 (v : Int)]).cell i
          have HNEW := Lib.hid hnew
          have hdlen : (done.length + 1) * 8 ≤ 140737488355328 := by omega
          have hdlen2 : done.length + 1 ≤ 9223372036854775807 := by omega
          clear hnew hnx he1 he2 he3 hnn hee HNX HI hA
          go_wp2_with (at_builtin; refine wp_push _ rfl (.tmp 97) (.tmp 99) 25 rfl w.heap.size 3 1 8 _ Tryd.underlying25 info_int rfl (by omega) (some ⟨g5, 0, none⟩) done.length c5 (ints done) rfl (HOWN.out.alloc _) wr.heap.size 1 [.int .i64 (v : Int)] rfl rfl (fun j u hu => (HNEW.out j).trans hu) (by intro u hu; simp at hu; subst hu; rfl) hdlen hdlen2 (by simp; omega) ?_; intro g1 c1 w4 ho4 hb4 hg4 hgr4 hat4)
          have HO4 := Lib.hid ho4
          have HB4 : Hid (Below w.heap.size w w4) := (HB.out.alloc hsz6 _).trans hb4
          have HRO4 : Hid (Row w4 O 52 (frRow outs)) := (HRO.out.alloc _).grown hgr4 (fun e => own_ne_row HOWN.out HRO.out (by decide) e.symm)
          have HR4 : Hid (Row w4 w.heap.size 24 [.int .i64 (N : Int), .slice A n c]) := (HR.out.alloc _).grown hgr4 (fun e => own_ne_row HOWN.out HR.out (by decide) e.symm)
          clear ho4 hb4 hgr4 hat4
          go_roundg r
          case rel =>
            refine ⟨r, v, wu - ee.weight, done ++ [(v : Int)], g1, c1, rfl, rfl, by simp, hvN, by omega, HU2.out, by simp; omega, HDN2.out, ?_, HRO4.out, HR4.out, HB4.out⟩
            have h := HO4.out
            show World.ownsRow _ _ _ _ _ _ _
            rw [ints_append, List.length_append]; exact h
          case measure => omega
end Go.Proofs.YtmcfhiddhifdcaaDoor
