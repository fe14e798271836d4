/- What the law's own helpers every and tied leave: all edges, and groups that edges join. Conditions: the graph is one that may be, and the edges are edges of it. -/
import Derived.Test.YtfbnecnhalnmeaaKruskal
namespace Go.Proofs.Ytfbnecnhalnmeaa
open Go.RowKit
set_option maxHeartbeats 2000000 in
theorem every_ (N : Int) (A : Option Addr) (n c : Nat) (w : World) (hn : n ≤ 40) :
    Calls Try.prog 18 #[graphV N A n c] w fun e w' => ∃ V c', e = .returned (.slice V n c') ∧ w'.ownsRow w.heap.size 3 1 (.slice V n c') n (ints (upto n)) ∧ Below w.heap.size w w' := by
  have HR0 : Hid (Row (w.alloc (.cells #[.int .i64 N, .slice A n c] 24)) w.heap.size 24 [.int .i64 N, .slice A n c]) := Row.new _ _ _
  have HB0 : Hid (Below w.heap.size w (w.alloc (.cells #[.int .i64 N, .slice A n c] 24))) := (Below.refl _ _).alloc (Nat.le_refl _) _
  have HS0 : Hid (w.heap.size + 1 ≤ (w.alloc (.cells #[.int .i64 N, .slice A n c] 24)).heap.size) := by show _ ≤ _; simp
  unfold graphV
  go_enter Try.func18, Try.ntmps18
  go_wp2
  generalize w.alloc (.cells #[.int .i64 N, .slice A n c] 24) = w1 at HR0 HB0 HS0 ⊢
  go_loopw [4, 3] (fun i v wr => ∃ (k : Nat) (V : Option Addr) (cv : Nat), i = .int .i64 (k : Int) ∧ k ≤ n ∧ v = .slice V k cv ∧ Hid (wr.ownsRow (w.heap.size + 1) 3 1 (.slice V k cv) k (ints (upto k))) ∧ Hid (Row wr w.heap.size 24 [.int .i64 N, .slice A n c]) ∧ Hid (Below w.heap.size w wr) ∧ Hid (w.heap.size + 1 ≤ wr.heap.size)) (fun i _ _ => n - (intOf i).toNat)
  case atStart => exact ⟨0, none, 0, rfl, by omega, rfl, by show World.ownsRow _ _ _ _ _ _ _; simpa [upto, ints] using World.ownsRow_nil _ _ _ _, HR0.out, HB0.out, HS0.out⟩
  case round =>
    clear HR0 HB0 HS0
    obtain ⟨k, V, cv, rfl, hk, rfl, HO, HR, HB, HS⟩ := hrel
    have hq1 := HR.out.cell 1
    by_cases hlt : k < n
    · have hlz : (k : Int) < n := by omega
      have hnew : ∀ i : Nat, (wr.alloc (.cells #[.int .i64 (k : Int)] 3)).cell? ⟨wr.heap.size, i, none⟩ = ([.int .i64 (k : Int)] : List Value)[i]? := fun i => (Row.new wr 3 #[.int .i64 (k : Int)]).cell i
      have HNEW := Lib.hid hnew
      have hsz := HS.out
      clear hnew
      go_wp2_with (at_builtin; refine wp_push _ rfl (.tmp 12) (.tmp 14) 26 rfl (w.heap.size + 1) 3 1 8 _ Try.underlying26 info_int rfl (by omega) V k cv (ints (upto k)) rfl (HO.out.alloc _) wr.heap.size 1 [.int .i64 (k : Int)] rfl rfl (fun i u hu => (HNEW.out i).trans hu) (by intro u hu; simp at hu; subst hu; rfl) (by omega) (by omega) (by rw [World.size_alloc]; omega) ?_; intro g1 c1 w4 ho4 hb4 hg4 hgr4 hat4)
      have HO4 := Lib.hid ho4
      have HR4 : Hid (Row w4 w.heap.size 24 [.int .i64 N, .slice A n c]) := (HR.out.alloc _).grown hgr4 (fun e => by have := (HO.out.lt _ e.symm).1; omega)
      have HB4 : Hid (Below w.heap.size w w4) := (HB.out.alloc (by omega) _).trans (hb4.mono (by omega))
      have HS4 : Hid (w.heap.size + 1 ≤ w4.heap.size) := Nat.le_trans hsz (Nat.le_trans (by simp) hb4.size)
      clear ho4 hb4 hgr4 hat4
      go_roundw
      case rel =>
        refine ⟨k + 1, _, c1, by go_num, by omega, rfl, ?_, HR4.out, HB4.out, HS4.out⟩
        show World.ownsRow _ _ _ _ _ _ _
        have e : upto (k + 1) = upto k ++ [(k : Int)] := by simp [upto, List.range_succ]
        rw [e, ints_append]; exact HO4.out
      case measure => simp [intOf]; omega
    · have hlz : ¬ (k : Int) < n := by omega
      have hkn : k = n := by omega
      subst hkn
      go_wp2
      go_ret
      exact ⟨V, cv, rfl, own_base HO.out (by omega), HB.out⟩
def TiedOK (w : World) (N : Nat) (l : List Edge) (L : List Int) (e : Ending) (w' : World) : Prop :=
  ∃ (p : Nat) (U : Option Addr) (cu : Nat) (S : Option Addr) (cs : Nat) (R : Nat → Nat) (free : Bool), e = .returned (.tuple #[.pointer (some ⟨p, 0, none⟩), .bool free]) ∧ UG w' w.heap.size p N U cu S cs R ∧ Gen N (L.map (eOf l)) R ∧ (free = true ↔ roots N R + L.length = N) ∧ Below w.heap.size w w'
set_option maxHeartbeats 4000000 in
set_option maxRecDepth 100000 in
theorem tied_ (N : Nat) (A : Option Addr) (n c : Nat) (l : List Edge) (A' : Option Addr) (m c' : Nat) (L : List Int) (w : World) (hA : Cells w w.heap.size A (edges l)) (hn : l.length = n) (hg : graphErr N l = 0)
    (hA' : Cells w w.heap.size A' (ints L)) (hm : L.length = m) (hmm : m ≤ 9223372036854775806) (hL : ∀ i ∈ L, 0 ≤ i ∧ i < n) :
    Calls Try.prog 17 #[graphV N A n c, .slice A' m c'] w (TiedOK w N l L) := by
  obtain ⟨⟨_, hN1⟩, hl40, hed⟩ := graphErr_ok hg
  have hN : N ≤ 16 := by omega
  have hn40 : n ≤ 40 := by omega
  have HN := Lib.hid hn
  have HM := Lib.hid hm
  have HED := Lib.hid hed
  have HL := Lib.hid hL
  have HR0 : Hid (Row (w.alloc (.cells #[.int .i64 (N : Int), .slice A n c] 24)) w.heap.size 24 [.int .i64 (N : Int), .slice A n c]) := Row.new _ _ _
  have HB0 : Hid (Below w.heap.size w (w.alloc (.cells #[.int .i64 (N : Int), .slice A n c] 24))) := (Below.refl _ _).alloc (Nat.le_refl _) _
  have HS0 : Hid (w.heap.size < (w.alloc (.cells #[.int .i64 (N : Int), .slice A n c] 24)).heap.size) := by show _ < _; simp
  have c1 := Lib.hid (new_ok N (w.alloc (.cells #[.int .i64 (N : Int), .slice A n c] 24)) (by omega))
  clear hn hm hg hed hl40 hN1 hL
  unfold graphV
  go_enter Try.func17, Try.ntmps17
  go_wp2_with fail
  refine c1.out.mono ?_
  rintro e w1 ⟨p, U, cu, S, cs, rfl, hu, hb1⟩
  have HU := Lib.hid hu
  have hs0 := HS0.out
  have HB1 : Hid (Below w.heap.size w w1) := HB0.out.trans (hb1.mono (by omega))
  have HR1 := Lib.hid (HR0.out.step hb1)
  have HUB : Hid (∀ x ∈ ugs p U S, w.heap.size < x) := fun x hx => by have := (hu.base_le x hx).1; omega
  obtain ⟨B1, hB1⟩ : ∃ z, z = (w.alloc (.cells #[.int .i64 (N : Int), .slice A n c] 24)).heap.size := ⟨_, rfl⟩
  rw [← hB1] at HU hs0
  clear hu hb1 c1 HB0 HR0 HS0 hB1
  go_wp2
  go_loopw [9, 8] (fun i f wr => ∃ (j : Nat) (R : Nat → Nat) (fr : Bool), i = .int .i64 (j : Int) ∧ j ≤ m ∧ f = .bool fr ∧ Hid (UG wr B1 p N U cu S cs R) ∧ Hid (Gen N ((L.take j).map (eOf l)) R) ∧ Hid (N ≤ roots N R + j ∧ (fr = true ↔ roots N R + j = N)) ∧ Hid (Row wr w.heap.size 24 [.int .i64 (N : Int), .slice A n c]) ∧ Hid (Below w.heap.size w wr)) (fun i _ _ => m - (intOf i).toNat)
  case atStart => exact ⟨0, id, true, rfl, by omega, rfl, HU.out, by show Gen _ _ _; simpa using Gen.start N, by show _ ∧ _; rw [roots_id]; simp, HR1.out, HB1.out⟩
  case round =>
    clear HU HR1 HB1
    obtain ⟨j, R, fr, rfl, hj, rfl, HU, HGEN, HF, HR, HB⟩ := hrel
    by_cases hjm : j < m
    · have hjz : (j : Int) < m := by omega
      obtain ⟨b', off', y, rfl, hbb', hy, hcy⟩ := ints_at hA' (show j < L.length by rw [HM.out]; exact hjm)
      have hyr := HL.out y (List.mem_of_getElem? hy)
      obtain ⟨q, rfl⟩ : ∃ q : Nat, y = q := ⟨y.toNat, by omega⟩
      have hqn : q < n := by omega
      have hqz : (q : Int) < n := by omega
      obtain ⟨b, off, ea, eb, et, rfl, hbb, hx, hc0, hc1, _⟩ := edges_at hA (show q < l.length by rw [HN.out]; exact hqn)
      obtain ⟨⟨ha0, ha1⟩, ⟨hb0, hb1⟩, _⟩ := HED.out _ (List.mem_of_getElem? hx)
      simp only at ha0 ha1 hb0 hb1
      have HIN : Hid (inG N ea eb = true) := inG_true (by omega)
      have HTK : Hid ((L.take (j + 1)).map (eOf l) = (L.take j).map (eOf l) ++ [(ea, eb)]) := by
        show _ = _
        rw [take_at hy, List.map_append]
        simp [eOf, eAt_of hx]
      have HC0 := Lib.hid hc0
      have HC1 := Lib.hid hc1
      have HCY := Lib.hid hcy
      rw [← HB.out.cell hbb] at hc0 hc1
      rw [← HB.out.cell hbb'] at hcy
      have hq1 := HR.out.cell 1
      have d1 : decide ((q : Int) < 0) = false := decide_eq_false (by omega)
      have d2 : decide ((n : Int) ≤ (q : Int)) = false := decide_eq_false (by omega)
      clear hx hy hyr hA hA'
      go_wp2
      go_quiet (fail)
      have HU2 : Hid (UG (wr.drewN nq) B1 p N U cu S cs R) := HU.out.keeps (Keeps.drewN (Keeps.refl [] _) _) (fun _ _ => by simp)
      have HR2 : Hid (Row (wr.drewN nq) w.heap.size 24 [.int .i64 (N : Int), .slice (some ⟨b, off, none⟩) n c]) := HR.out.drewN _
      have HB2 : Hid (Below w.heap.size w (wr.drewN nq)) := below_drewN HB.out _
      have k0 : (wr.drewN nq).cell? ⟨b, off + q * 3, none⟩ = some (.int .i64 ea) := hc0
      have k1 : (wr.drewN nq).cell? ⟨b, off + q * 3 + 1, none⟩ = some (.int .i64 eb) := hc1
      have k2 : (wr.drewN nq).cell? ⟨b', off' + j, none⟩ = some (.int .i64 (q : Int)) := hcy
      clear hc0 hc1 hcy hq1 HU HR HB d1 d2
      generalize wr.drewN nq = w2 at HU2 HR2 HB2 k0 k1 k2 ⊢
      have hq1 := HR2.out.cell 1
      have hud : UG w2.drew B1 p N U cu S cs R := HU2.out.keeps (Keeps.drew (Keeps.refl [] _)) (fun _ _ => by simp)
      have cj := Lib.hid (joinG ea eb hud HGEN.out)
      have hwr : w.heap.size ≤ w2.heap.size := HB2.out.size
      clear hud
      go_wp2
      go_region_held3 (fun W => W.cell? ⟨w.heap.size, 1, none⟩ = some (.slice (some ⟨b, off, none⟩) n c) ∧ W.cell? ⟨b', off' + j, none⟩ = some (.int .i64 (q : Int)) ∧ W.cell? ⟨b, off + q * 3, none⟩ = some (.int .i64 ea) ∧ W.cell? ⟨b, off + q * 3 + 1, none⟩ = some (.int .i64 eb)) (first | go_keep | (go_split_ands; refine ⟨?_, ?_, ?_, ?_⟩ <;> assumption))
        (first | (go_at_call 10; refine cj.out.mono ?_; rintro e w8 ⟨t, R', rfl, hu', hg', hk', hroots, hiff⟩; rw [HIN.out, if_pos rfl, errV_zero]; have HROOTS := Lib.hid hroots; have HU' := Lib.hid hu'; have HG' := Lib.hid hg'; have HK' := Lib.hid hk'; clear hu' hg' hk' hroots hiff; have HB' := Lib.hid (HB2.out.trans ((Below.refl _ _).drew.trans (HK'.out.below (B := w.heap.size) (fun x hx => by have := HUB.out x hx; omega) hwr))); have HR' := Lib.hid (HK'.out.row (show Row w2.drew w.heap.size 24 [.int .i64 (N : Int), .slice (some ⟨b, off, none⟩) n c] from HR2.out) (fun hm => by have := HUB.out _ hm; omega)); have z1 := HR'.out.cell 1; have z2 := (HB'.out.cell (p := ⟨b, off + q * 3, none⟩) hbb).trans HC0.out; have z3 := (HB'.out.cell (p := ⟨b, off + q * 3 + 1, none⟩) hbb).trans HC1.out; have z4 := (HB'.out.cell (p := ⟨b', off' + j, none⟩) hbb').trans HCY.out))
      have HGEN' : Hid (Gen N ((L.take (j + 1)).map (eOf l)) R') := by show Gen _ _ _; rw [HTK.out]; exact HG'.out
      have HF' : Hid (N ≤ roots N R' + (j + 1) ∧ ((fr && t) = true ↔ roots N R' + (j + 1) = N)) := by
        have h1 := HF.out
        have h2 := HROOTS.out
        show _ ∧ _
        cases t <;> cases fr <;> simp at h1 h2 ⊢ <;> omega
      clear z1 z2 z3 z4 k0 k1 k2 hq1 cj HK' HU2 HGEN HR2 HB2 HG' HF HROOTS
      cases fr with
      | true =>
        cases t with
        | true =>
          go_wp2
          go_roundw
          case rel => exact ⟨j + 1, R', true, by go_num, by omega, rfl, HU'.out, HGEN'.out, HF'.out, HR'.out, HB'.out⟩
          case measure => simp [intOf]; omega
        | false =>
          go_wp2
          go_roundw
          case rel => exact ⟨j + 1, R', false, by go_num, by omega, rfl, HU'.out, HGEN'.out, HF'.out, HR'.out, HB'.out⟩
          case measure => simp [intOf]; omega
      | false =>
        go_wp2
        go_roundw
        case rel => exact ⟨j + 1, R', false, by go_num, by omega, rfl, HU'.out, HGEN'.out, by show _ ∧ _; have := HF'.out; simpa using this, HR'.out, HB'.out⟩
        case measure => simp [intOf]; omega
    · have hjz : ¬ (j : Int) < m := by omega
      have hjm2 : j = m := by omega
      subst hjm2
      have HG2 : Hid (Gen N (L.map (eOf l)) R) := by
        have := HGEN.out
        rw [List.take_of_length_le (by rw [HM.out]; omega)] at this; exact this
      have HF2 : Hid (fr = true ↔ roots N R + L.length = N) := by show _ ↔ _; rw [HM.out]; exact HF.out.2
      have HU2 : Hid (∃ base, base = w.heap.size ∧ UG wr base p N U cu S cs R) := by
        refine ⟨w.heap.size, rfl, ?_⟩
        obtain ⟨up, size, rk, K, h1, h2, h3⟩ := HU.out.ex
        exact ⟨⟨up, size, rk, K, ⟨h1.row, own_base h1.up (by omega), own_base h1.sz (by omega), h1.ne, by have := h1.at_; omega⟩, h2, h3⟩, HU.out.few⟩
      go_wp2
      go_ret2
      obtain ⟨base, rfl, hU2⟩ := HU2.out
      exact ⟨p, U, cu, S, cs, R, fr, rfl, hU2, HG2.out, HF2.out, HB.out⟩
end Go.Proofs.Ytfbnecnhalnmeaa
