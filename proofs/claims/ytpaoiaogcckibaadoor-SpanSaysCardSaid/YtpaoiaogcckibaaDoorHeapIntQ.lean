/- core.Heap of int: Pop, walked. Conditions: at most 10000 things. -/
import Derived.Test.YtpaoiaogcckibaaDoorHeapIntP
namespace Go.Proofs.YtpaoiaogcckibaaDoor
open Go.RowKit
def inPopOK (w : World) (base p n g c : Nat) (ys : List Int) (x : Int) (lt : Int → Int → Bool) (gb : Nat) (e : Ending) (w' : World) : Prop :=
  e = .returned (.int .i64 x) ∧ ∃ zs, inHeap w' base p n (some ⟨g, 0, none⟩) c zs (.func (.func 102) #[] #[.pointer (some ⟨gb, 0, none⟩)]) ∧ HeapOrd lt zs ∧ (x :: zs).Perm ys ∧ Keeps (inBl p (some ⟨g, 0, none⟩)) w w'
theorem inHeap.cut {w : World} {base p n g c : Nat} {ys : List Int} {FV : Value} (h : inHeap w base p (n + 1) (some ⟨g, 0, none⟩) c ys FV) :
    inHeap (w.setCell ⟨p, 0, none⟩ (.slice (some ⟨g, 0, none⟩) n c)) base p n (some ⟨g, 0, none⟩) c (ys.take n) FV := by
  have e := h.ne
  have hl := h.len
  refine ⟨h.row.set_ 0 _, ?_, h.at_⟩
  have h1 := ownsRow_setCell_other (a := ⟨p, 0, none⟩) h.own (by simp only [Value.ownBlock, ne_eq, Option.some.injEq]; exact e) (.slice (some ⟨g, 0, none⟩) n c)
  obtain ⟨e1, e2⟩ := h1
  refine ⟨by rw [in_len, List.length_take]; omega, ?_⟩
  rcases e2 with ⟨e3, _⟩ | ⟨g', cap', cur, hv, hb, hg, hnc, hcm, hcs, htk⟩
  · simp at e3
  · simp only [Value.slice.injEq, Option.some.injEq, Addr.mk.injEq, and_true, true_and] at hv
    obtain ⟨rfl, rfl⟩ := hv
    refine Or.inr ⟨g, c, cur, rfl, hb, hg, by omega, hcm, hcs, ?_⟩
    have e4 : ints (ys.take n) = (ints ys).take (n * 1) := by unfold ints; rw [List.map_take, Nat.mul_one]
    rw [e4, ← htk, List.take_take, Nat.min_eq_left (by omega)]
set_option maxHeartbeats 8000000 in
set_option maxRecDepth 100000 in
theorem in_pop {w : World} {base p n g c gb : Nat} {ys : List Int} {P : Int → Prop} {lt : Int → Int → Bool} (hlt : Firsts lt) (h : inHeap w base p (n + 1) (some ⟨g, 0, none⟩) c ys (.func (.func 102) #[] #[.pointer (some ⟨gb, 0, none⟩)])) (ho : HeapOrd lt ys) (hm : n ≤ 10000) (hP : ∀ y ∈ ys, P y)
    (hf : ∀ W : World, Keeps (inBl p (some ⟨g, 0, none⟩)) w W → ∀ x y : Int, P x → P y → Calls Tryd.prog 102 (#[.int .i64 x, .int .i64 y] ++ #[.pointer (some ⟨gb, 0, none⟩)]) W fun e w' => e = .returned (.bool (lt x y)) ∧ Below W.heap.size W w') :
    Calls Tryd.prog 123 #[.pointer (some ⟨p, 0, none⟩)] w (inPopOK w base p n g c ys ys[0]! lt gb) := by
  have H := Lib.hid h
  have HO := Lib.hid ho
  have HFF := Lib.hid hf
  have HPA := Lib.hid hP
  have HLT := Lib.hid hlt
  obtain ⟨x0, hex⟩ : ∃ z, z = ys[0]! := ⟨_, rfl⟩
  have cx := h.get (k := 0) (by omega)
  rw [← hex] at cx
  have HX := Lib.hid hex
  rw [← hex]
  clear hex
  have hx0 := h.c0
  have cl := h.get (k := n) (by omega)
  obtain ⟨l0, hel⟩ : ∃ z, z = ys[n]! := ⟨_, rfl⟩
  rw [← hel] at cl
  have HEL := Lib.hid hel
  clear hel
  have fz0 := h.free 0
  have HH2 : Hid (inHeap (w.setCell ⟨g, 0, none⟩ (.int .i64 l0)).drew base p (n + 1) (some ⟨g, 0, none⟩) c (ys.set 0 l0) (.func (.func 102) #[] #[.pointer (some ⟨gb, 0, none⟩)])) := (h.put 0 l0).drew
  have HK2 : Hid (Keeps (inBl p (some ⟨g, 0, none⟩)) w (w.setCell ⟨g, 0, none⟩ (.int .i64 l0)).drew) := ((Keeps.refl _ _).setCell (Or.inl (by simp [inBl])) _).drew
  have hw0 : IntKind.i64.wrap ((n : Int) + 1 - 1) = (n : Int) := by rw [IntKind.wrap_i64]; omega
  have hp0 : 0 < n + 1 := by omega
  have hcap : (n : Int) + 1 ≤ (c : Int) := by
    rcases h.own.2 with ⟨e3, _⟩ | ⟨g', cap', cur, hv, hb, hg, hnc, hcm, hcs, htk⟩
    · simp at e3
    · simp only [Value.slice.injEq, Option.some.injEq, Addr.mk.injEq, and_true, true_and] at hv
      omega
  have hcap2 : (n : Int) ≤ (c : Int) := by omega
  have hcap3 : n ≤ c := by omega
  have hnn : (0 : Int) ≤ (n : Int) := by omega
  have hn1 : (n : Int) < (n : Int) + 1 := by omega
  clear h ho hf hP hlt
  go_enter Tryd.func123, Tryd.ntmps123
  go_wp2
  go_region
  generalize (w.setCell ⟨g, 0, none⟩ (.int .i64 l0)).drew = W2 at HH2 HK2 ⊢
  clear hx0 cl fz0 cx
  have hx0 := HH2.out.c0
  have hfp := HH2.out.row.frozen 0
  have HH3 : Hid (inHeap (W2.setCell ⟨p, 0, none⟩ (.slice (some ⟨g, 0, none⟩) n c)) base p n (some ⟨g, 0, none⟩) c (popped ys) (.func (.func 102) #[] #[.pointer (some ⟨gb, 0, none⟩)])) := by
    have h1 := HH2.out.cut
    have e : (ys.set 0 l0).take n = popped ys := by
      unfold popped
      rw [show ys.length - 1 = n by have := H.out.len; omega, ← HEL.out]
    rw [e] at h1; exact h1
  have HK3 : Hid (Keeps (inBl p (some ⟨g, 0, none⟩)) w (W2.setCell ⟨p, 0, none⟩ (.slice (some ⟨g, 0, none⟩) n c))) := HK2.out.setCell (Or.inl (by simp [inBl])) _
  go_wp2
  generalize W2.setCell ⟨p, 0, none⟩ (.slice (some ⟨g, 0, none⟩) n c) = W3 at HH3 HK3 ⊢
  clear hx0 hfp HH2 HK2 hw0 hp0 hn1 HEL
  go_loopw [5] (fun i wr => ∃ (k : Nat) (zs : List Int), i = .int .i64 (k : Int) ∧ k ≤ n ∧ Hid (DownAt lt zs k) ∧ Hid ((x0 :: zs).Perm ys) ∧ Hid (inHeap wr base p n (some ⟨g, 0, none⟩) c zs (.func (.func 102) #[] #[.pointer (some ⟨gb, 0, none⟩)])) ∧ Hid (Keeps (inBl p (some ⟨g, 0, none⟩)) w wr)) (fun i _ => n - (intOf i).toNat)
  case atStart => exact ⟨0, popped ys, rfl, by omega, DownAt.start HO.out, by rw [HX.out]; exact popped_perm ys (by have := H.out.len; omega), HH3.out, HK3.out⟩
  case round =>
    clear HH3 HK3
    obtain ⟨k, zs, rfl, hk, HD, HPM, HH, HK⟩ := hrel
    have hkz : (k : Int) ≤ n := by omega
    have HFIN : Hid (HeapOrd lt zs → ∀ W, inHeap W base p n (some ⟨g, 0, none⟩) c zs (.func (.func 102) #[] #[.pointer (some ⟨gb, 0, none⟩)]) → Keeps (inBl p (some ⟨g, 0, none⟩)) w W → inPopOK w base p n g c ys x0 lt gb (.returned (.int .i64 x0)) W) :=
      fun h1 W h2 h3 => ⟨rfl, zs, h2, h1, HPM.out, h3⟩
    have HPZ : Hid (∀ j, j < n → P zs[j]!) := fun j hj => HPA.out _ (HPM.out.mem_iff.1 (List.mem_cons_of_mem _ (in_mem (by rw [HH.out.len]; exact hj))))
    by_cases h1 : 2 * k + 1 < n
    · have h1z : 2 * (k : Int) + 1 < n := by omega
      obtain ⟨low, hlow⟩ : ∃ l, l = lower lt zs k := ⟨_, rfl⟩
      have hlo := lower_ok HLT.out (ys := zs) (i := k) (by rw [HH.out.len]; exact h1)
      rw [← hlow, HH.out.len] at hlo
      obtain ⟨hlo1, hlo2, hlo3, hlo4⟩ := hlo
      have HLOW := Lib.hid hlow
      obtain ⟨b, hb⟩ : ∃ b : Bool, b = decide (2 * k + 1 + 1 < n ∧ lt zs[2 * k + 1 + 1]! zs[2 * k + 1]! = true) := ⟨_, rfl⟩
      have HB := Lib.hid hb
      have HBT : Hid (b = true → low = 2 * k + 1 + 1) := fun e => by
        rw [hlow]; unfold lower; rw [HH.out.len, if_pos (of_decide_eq_true (hb.symm.trans e))]
      have HBF : Hid (b = false → low = 2 * k + 1) := fun e => by
        rw [hlow]; unfold lower; rw [HH.out.len, if_neg (of_decide_eq_false (hb.symm.trans e))]
      have hloz : (low : Int) < n := by omega
      have h1d : decide ((n : Int) ≤ 2 * (k : Int) + 1) = false := decide_eq_false (by omega)
      obtain ⟨s, hs⟩ : ∃ s, s = 2 * k + 1 := ⟨_, rfl⟩
      have hsz : 2 * (k : Int) + 1 = (s : Int) := by omega
      have HS := Lib.hid hs
      have h1e : decide ((n : Int) ≤ (s : Int)) = false := decide_eq_false (by omega)
      have h1f : decide (n ≤ s) = false := decide_eq_false (by omega)
      clear hlow hb hlo2 hs hlo4
      go_upto_region 9 with fail
      try rw [hsz]
      have hsn : s < n := by have := HS.out; omega
      clear hsz h1z h1d h1e h1f
      go_cut [72] from 47 to 72 (fun v wx => v = .bool b ∧ Hid (inHeap wx base p n (some ⟨g, 0, none⟩) c zs (.func (.func 102) #[] #[.pointer (some ⟨gb, 0, none⟩)])) ∧ Hid (Keeps (inBl p (some ⟨g, 0, none⟩)) w wx))
      case first =>
        by_cases h2 : 2 * k + 1 + 1 < n
        · have h2z : 2 * (k : Int) + 1 + 1 < n := by omega
          obtain ⟨r, hr⟩ : ∃ r, r = s + 1 := ⟨_, rfl⟩
          have hrn : r < n := by have := HS.out; omega
          have hrt : ((s : Int) + 1).toNat = r := by omega
          have hr0 : (0 : Int) ≤ (s : Int) + 1 := by omega
          have hr1 : (s : Int) + 1 < n := by omega
          have hrw : IntKind.i64.wrap ((s : Int) + 1) = (s : Int) + 1 := by rw [IntKind.wrap_i64]; omega
          have hs0 : (0 : Int) ≤ (s : Int) := by omega
          have hs1 : (s : Int) < n := by omega
          have hx0 := HH.out.c0
          have hx1 := HH.out.c1
          have hPr := HPZ.out r hrn
          have hPs := HPZ.out s hsn
          obtain ⟨r0, her⟩ : ∃ z, z = zs[r]! := ⟨_, rfl⟩
          have cr := HH.out.get (k := r) (by omega)
          rw [← her] at cr hPr
          have HEr := Lib.hid her
          clear her
          obtain ⟨s0, hes⟩ : ∃ z, z = zs[s]! := ⟨_, rfl⟩
          have cs := HH.out.get (k := s) (by omega)
          rw [← hes] at cs hPs
          have HEs := Lib.hid hes
          clear hes
          have HCF := Lib.hid (HFF.out wr.drew HK.out.drew r0 s0 hPr hPs)
          have HBE : Hid (b = lt r0 s0) := by
            show b = _
            rw [HB.out, HEr.out, HEs.out, hr, HS.out]
            cases hq : lt zs[2 * k + 1 + 1]! zs[2 * k + 1]! with
            | true => exact decide_eq_true ⟨h2, rfl⟩
            | false => exact decide_eq_false (fun e => by cases e.2)
          clear hr HB HBT HBF h2z hPr hPs
          rw [← HBE.out] at HCF
          go_region_held3 (fun W => W.cell? ⟨p, 0, none⟩ = some (.slice (some ⟨g, 0, none⟩) (n) c) ∧ W.cell? ⟨p, 1, none⟩ = some (.func (.func 102) #[] #[.pointer (some ⟨gb, 0, none⟩)]) ∧ W.cell? ⟨g, r, none⟩ = some (.int .i64 r0) ∧ W.cell? ⟨g, s, none⟩ = some (.int .i64 s0)) (first | go_keep | (go_split_ands; refine ⟨?_, ?_, ?_, ?_⟩ <;> assumption)) (first | (go_at_call 102; refine HCF.out.mono ?_; rintro e w2 ⟨rfl, hb2⟩; have h2 := HH.out.drew.step hb2; have d0 := h2.c0; have d1 := h2.c1; have dr := h2.get (k := r) (by omega); have ds := h2.get (k := s) (by omega); rw [← HEr.out] at dr; rw [← HEs.out] at ds))
          have HH2 := Lib.hid h2
          have HK2 : Hid (Keeps (inBl p (some ⟨g, 0, none⟩)) w w2) := HK.out.drew.trans (Keeps.ofBelow hb2)
          clear h2 hb2
          go_wp2
          go_meet
          exact ⟨rfl, HH2, HK2⟩
        · have h2z : ¬ (s : Int) + 1 < n := by have := HS.out; omega
          have h2d : decide ((s : Int) + 1 < n) = false := decide_eq_false h2z
          have HBE : Hid (b = false) := HB.out.trans (decide_eq_false (fun e => h2 e.1))
          have hw1 : IntKind.i64.wrap ((s : Int) + 1) = (s : Int) + 1 := by rw [IntKind.wrap_i64]; omega
          clear HB HBT HBF
          go_quiet (fail)
          go_wp2
          go_meet
          exact ⟨by rw [HBE.out], HH.out.drewN _, HK.out.drewN _⟩
      case rest =>
      clear HB
      obtain ⟨rfl, HH2, HK2⟩ := hcut
      clear HH HK
      go_upto_if 72 with fail
      go_cut [6] from 47 to 74 (fun v wx => v = .int .i64 (low : Int) ∧ wc = wx)
      case first =>
        cases b with
        | true =>
          have HL := Lib.hid (HBT.out rfl)
          have hw1 : IntKind.i64.wrap ((s : Int) + 1) = (s : Int) + 1 := by rw [IntKind.wrap_i64]; omega
          clear HBT HBF
          go_wp2
          go_meet
          exact ⟨int_eq (by have := HL.out; have := HS.out; omega), rfl⟩
        | false =>
          have HL := Lib.hid (HBF.out rfl)
          clear HBT HBF
          go_wp2
          go_meet
          exact ⟨int_eq (by have := HL.out; have := HS.out; omega), rfl⟩
      case rest =>
      clear HBT HBF
      obtain ⟨rfl, rfl⟩ := hcut
      have hx0 := HH2.out.c0
      have hx1 := HH2.out.c1
      have hPl := HPZ.out low (by omega)
      have hPk := HPZ.out k (by omega)
      obtain ⟨l0, hel⟩ : ∃ z, z = zs[low]! := ⟨_, rfl⟩
      have cl := HH2.out.get (k := low) (by omega)
      rw [← hel] at cl hPl
      have HEl := Lib.hid hel
      clear hel
      obtain ⟨k0, hek⟩ : ∃ z, z = zs[k]! := ⟨_, rfl⟩
      have ck := HH2.out.get (k := k) (by omega)
      rw [← hek] at ck hPk
      have HEk := Lib.hid hek
      clear hek
      have b1 : (0 : Int) ≤ (k : Int) := by omega
      have b2 : (k : Int) < (n : Int) := by omega
      have b3 : (0 : Int) ≤ (low : Int) := by omega
      have HCF := Lib.hid (HFF.out wc.drew HK2.out.drew l0 k0 hPl hPk)
      clear hPl hPk
      cases hll : lt l0 k0 with
      | true =>
        rw [hll] at HCF
        have HL := Lib.hid hll
        clear hll
        go_wp2
        go_region_held3 (fun W => W.cell? ⟨p, 0, none⟩ = some (.slice (some ⟨g, 0, none⟩) (n) c) ∧ W.cell? ⟨p, 1, none⟩ = some (.func (.func 102) #[] #[.pointer (some ⟨gb, 0, none⟩)]) ∧ W.cell? ⟨g, low, none⟩ = some (.int .i64 l0) ∧ W.cell? ⟨g, k, none⟩ = some (.int .i64 k0)) (first | go_keep | (go_split_ands; refine ⟨?_, ?_, ?_, ?_⟩ <;> assumption)) (first | (go_at_call 102; refine HCF.out.mono ?_; rintro e w2 ⟨rfl, hb2⟩; have h2 := HH2.out.drew.step hb2; have d0 := h2.c0; have d1 := h2.c1; have dlow := h2.get (k := low) (by omega); have dk := h2.get (k := k) (by omega); rw [← HEl.out] at dlow; rw [← HEk.out] at dk))
        have HH3 := Lib.hid h2
        have HK3 : Hid (Keeps (inBl p (some ⟨g, 0, none⟩)) w w2) := HK2.out.drew.trans (Keeps.ofBelow hb2)
        clear h2 hb2 hx0 hx1 cl ck HH2 HK2 HCF
        have hpa := HH3.out.put k l0
        have hpb := hpa.put low k0
        have HPB := Lib.hid hpb.drew
        have fl := HH3.out.free low
        have fk := HH3.out.free k
        have hcq := hpa.get (k := low) (by omega)
        have hzq : (zs.set k l0)[low]! = l0 := by rw [gset _ _ _ _ (by have := HH3.out.len; omega), if_neg (by omega)]; exact HEl.out.symm
        rw [hzq] at hcq
        clear hpa hpb hzq
        go_wp2
        go_region
        have HK4 : Hid (Keeps (inBl p (some ⟨g, 0, none⟩)) w ((w2.setCell ⟨g, k, none⟩ (.int .i64 l0)).setCell ⟨g, low, none⟩ (.int .i64 k0)).drew) := ((HK3.out.setCell (Or.inl (by simp [inBl])) _).setCell (Or.inl (by simp [inBl])) _).drew
        generalize ((w2.setCell ⟨g, k, none⟩ (.int .i64 l0)).setCell ⟨g, low, none⟩ (.int .i64 k0)).drew = w5 at HPB HK4 ⊢
        clear fl fk hcq
        go_wp2
        go_roundw
        case rel =>
          have hln := HH3.out.len
          have e1 : (zs.set k l0).set low k0 = swapped zs k (lower lt zs k) := by unfold swapped; rw [← HLOW.out, ← HEk.out, ← HEl.out]
          refine ⟨low, swapped zs k (lower lt zs k), rfl, by omega, ?_, ((swapped_perm zs (by omega) (by rw [← HLOW.out]; omega)).cons _).trans HPM.out, ?_, HK4.out⟩
          · have := DownAt.step HLT.out HD.out (by omega) (by rw [← HLOW.out, ← HEk.out, ← HEl.out]; exact HL.out)
            rw [← HLOW.out] at this ⊢; exact this
          · rw [← e1]; exact HPB.out
        case measure => simp [intOf]; omega
      | false =>
        rw [hll] at HCF
        have HL := Lib.hid hll
        clear hll
        go_wp2
        go_region_held3 (fun W => W.cell? ⟨p, 0, none⟩ = some (.slice (some ⟨g, 0, none⟩) (n) c) ∧ W.cell? ⟨p, 1, none⟩ = some (.func (.func 102) #[] #[.pointer (some ⟨gb, 0, none⟩)]) ∧ W.cell? ⟨g, low, none⟩ = some (.int .i64 l0) ∧ W.cell? ⟨g, k, none⟩ = some (.int .i64 k0)) (first | go_keep | (go_split_ands; refine ⟨?_, ?_, ?_, ?_⟩ <;> assumption)) (first | (go_at_call 102; refine HCF.out.mono ?_; rintro e w2 ⟨rfl, hb2⟩; have h2 := HH2.out.drew.step hb2; have d0 := h2.c0; have d1 := h2.c1; have dlow := h2.get (k := low) (by omega); have dk := h2.get (k := k) (by omega); rw [← HEl.out] at dlow; rw [← HEk.out] at dk))
        have HH3 := Lib.hid h2
        have HK3 : Hid (Keeps (inBl p (some ⟨g, 0, none⟩)) w w2) := HK2.out.drew.trans (Keeps.ofBelow hb2)
        clear h2 hb2 hx0 hx1 cl ck HH2 HK2 HCF
        go_wp2
        go_ret
        exact HFIN.out (HD.out.stay HLT.out (by rw [HH3.out.len]; omega) (by rw [← HLOW.out, ← HEl.out, ← HEk.out]; exact HL.out)) w2 HH3.out HK3.out
    · have h1z : ¬ 2 * (k : Int) + 1 < n := by omega
      go_wp2
      go_ret
      exact HFIN.out (HD.out.none (by rw [HH.out.len]; omega)) wr HH.out HK.out
end Go.Proofs.YtpaoiaogcckibaaDoor
