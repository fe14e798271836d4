/- slices.symMergeCmpFunc over a row of items: two sorted neighbouring parts become one. Conditions: the comparison is one by a weak order and answers by its contract. -/
import Derived.Test.YtejbilcofbjpiaaRotK
namespace Go.Proofs.Ytejbilcofbjpiaa
open Go.Shelf Go.RowKit Go.Lib Go.Sort Go.Proofs
set_option maxHeartbeats 16000000 in
set_option maxRecDepth 1000000 in
/-- the left part is one element -/
theorem symLeftK (cf : It → It → Int) (v : It → Int) (g : Nat) (cb : Array Value) (blk off cap a b : Nat) (d0 d : Array It) (w0 w : World) (hw : Weak cf)
    (eg : ∀ args w, (callFunc g args).run Try.prog w = .ok (.enter g args) w) (hcmp : CmpLays Try.prog g cb itV 2 cf blk off d0.size w0) (R : RI w0 blk off d0) (hs : d0.size = d.size) (S : SI w0 blk off d w) (hb : b ≤ d.size) (hsz : d.size < 4611686018427387904)
    (hab : a + 1 < b) (hs2 : Sorted cf v d (a + 1) b) (hv : ∀ y, a + 1 ≤ y → y < b → v d[a]! < v d[y]!) (zm : Int) (hzm : zm = (a : Int) + 1) :
    Calls Try.prog 41 #[.slice (some ⟨blk, off, none⟩) d.size cap, .int .i64 a, .int .i64 zm, .int .i64 b, .func (.func g) #[] cb] w fun e w' => e = .returned (.tuple #[]) ∧ ∃ d', PermIn a b d d' ∧ Sorted cf v d' a b ∧ SI w0 blk off d' w' := by
  have mixed : Try.prog.follows .mixedOrders = true := by kernel_rfl
  have HC : Aside _ := hcmp
  have S0 : Aside (SI w0 blk off d w) := S
  have HS2 := Lib.hid hs2
  have HV := Lib.hid hv
  have h1 : IntKind.i64.wrap ((a : Int) + 1 - a) = 1 := by rw [IntKind.wrap_i64]; omega
  clear S hcmp hs2 hv
  subst hzm
  go_enter Try.func41, Try.ntmps41
  go_wp2
  clear h1
  go_loopw [10, 11] (fun vi vj wr => ∃ (i j : Nat), vi = .int .i64 (i : Int) ∧ vj = .int .i64 (j : Int) ∧ a + 1 ≤ i ∧ i ≤ j ∧ j ≤ b ∧ Aside (SI w0 blk off d wr) ∧ Hid (∀ y, a + 1 ≤ y → y < i → Ahead cf v d[y]! d[a]!) ∧ Hid (∀ y, j ≤ y → y < b → Ahead cf v d[a]! d[y]!)) (fun vi vj _ => (intOf vj).toNat - (intOf vi).toNat)
  case atStart => exact ⟨a + 1, b, by go_num, rfl, by omega, by omega, by omega, S0, fun y h1 h2 => by omega, fun y h1 h2 => by omega⟩
  case round =>
    clear S0
    obtain ⟨i, j, rfl, rfl, hai, hij, hjb, S1, HL, HR⟩ := hrel
    by_cases hlt : i < j
    · have hltz : (i : Int) < (j : Int) := by omega
      obtain ⟨h, hh⟩ : ∃ h, h = (i + j) / 2 := ⟨_, rfl⟩
      have hhz : ((i : Int) + (j : Int)) / 2 = (h : Int) := by omega
      have hih : i ≤ h := by omega
      have hhj : h < j := by omega
      have HH := Lib.hid hh
      clear hh
      by_cases hlv : cf d[h]! d[a]! < 0
      · have HN : Hid (∀ y, a + 1 ≤ y → y < h + 1 → Ahead cf v d[y]! d[a]!) := fun y h1 h2 => HS2.out.le hw (q := h) h1 (by omega) (by omega) (Or.inl hlv)
        have p1a : (0 : Int) ≤ (h : Int) := by omega
        have b1a : (h : Int) < (d.size : Int) := by omega
        have p1b : (0 : Int) ≤ (a : Int) := by omega
        have b1b : (a : Int) < (d.size : Int) := by omega
        obtain ⟨x1, hx1⟩ : ∃ x, x = d[h]! := ⟨_, rfl⟩
        obtain ⟨y1, hy1⟩ : ∃ x, x = d[a]! := ⟨_, rfl⟩
        obtain ⟨l1ap, l1aq⟩ := si_cl S1.out R (by omega) (h) (by omega)
        obtain ⟨l1bp, l1bq⟩ := si_cl S1.out R (by omega) (a) (by omega)
        rw [← hx1] at l1ap l1aq
        rw [← hy1] at l1bp l1bq
        have hc1 := si_cmp S1.out HC.out (by omega) x1 y1
        have hv1 : cf x1 y1 < 0 := by rw [hx1, hy1]; exact hlv
        have hd1 : decide (cf x1 y1 < 0) = true := decide_eq_true hv1
        clear hx1 hy1
        go_wp2_with fail
        try rw [hhz]
        go_quiet_grown (first | (go_at_fn g; refine Calls.grown_of (hc1 _ _)))
        have S2 : Aside (SI w0 blk off d (grow (wr.drewN nq) osq)) := S1.out.grown nq osq
        clear l1ap l1aq l1bp l1bq hc1 S1
        generalize grow (wr.drewN nq) osq = w2 at S2 ⊢
        clear nq osq
        clear hlv hhz
        go_wp2
        go_roundw
        case rel => exact ⟨h + 1, j, by go_num, rfl, by omega, by omega, hjb, S2, HN, HR⟩
        case measure => simp [intOf]; omega
      · have HN : Hid (∀ y, h ≤ y → y < b → Ahead cf v d[a]! d[y]!) := fun y h1 h2 => HS2.out.ge hw (p := h) (by omega) h1 h2 (Ahead.of_not hw hlv (HV.out h (by omega) (by omega)))
        have p1a : (0 : Int) ≤ (h : Int) := by omega
        have b1a : (h : Int) < (d.size : Int) := by omega
        have p1b : (0 : Int) ≤ (a : Int) := by omega
        have b1b : (a : Int) < (d.size : Int) := by omega
        obtain ⟨x1, hx1⟩ : ∃ x, x = d[h]! := ⟨_, rfl⟩
        obtain ⟨y1, hy1⟩ : ∃ x, x = d[a]! := ⟨_, rfl⟩
        obtain ⟨l1ap, l1aq⟩ := si_cl S1.out R (by omega) (h) (by omega)
        obtain ⟨l1bp, l1bq⟩ := si_cl S1.out R (by omega) (a) (by omega)
        rw [← hx1] at l1ap l1aq
        rw [← hy1] at l1bp l1bq
        have hc1 := si_cmp S1.out HC.out (by omega) x1 y1
        have hv1 : ¬ cf x1 y1 < 0 := by rw [hx1, hy1]; exact hlv
        have hd1 : decide (cf x1 y1 < 0) = false := decide_eq_false hv1
        clear hx1 hy1
        go_wp2_with fail
        try rw [hhz]
        go_quiet_grown (first | (go_at_fn g; refine Calls.grown_of (hc1 _ _)))
        have S2 : Aside (SI w0 blk off d (grow (wr.drewN nq) osq)) := S1.out.grown nq osq
        clear l1ap l1aq l1bp l1bq hc1 S1
        generalize grow (wr.drewN nq) osq = w2 at S2 ⊢
        clear nq osq
        clear hlv hhz
        go_wp2
        go_roundw
        case rel => exact ⟨i, h, rfl, rfl, hai, by omega, by omega, S2, HL, HN⟩
        case measure => simp [intOf]; omega
    · have hltz : ¬ (i : Int) < (j : Int) := by omega
      have hij2 : i = j := by omega
      subst hij2
      go_wp2
      go_loopw [13] (fun vk wr => ∃ (k : Nat) (dk : Array It), vk = .int .i64 (k : Int) ∧ a ≤ k ∧ k + 1 ≤ i ∧ dk.size = d.size ∧ Aside (SI w0 blk off dk wr) ∧ Hid (IsRot d dk a (a + 1) (k + 1)) ∧ Hid (PermIn a b d dk)) (fun vk _ => i - (intOf vk).toNat)
      case atStart => exact ⟨a, d, rfl, Nat.le_refl _, by omega, rfl, S1, IsRot.none d (Or.inr rfl) (by omega) (by omega), permIn_refl _ _ _⟩
      case round =>
        clear S1
        obtain ⟨k, dk, rfl, hak, hki, hsk, S1, HI, HP⟩ := hrel
        by_cases hk : k + 1 < i
        · have hkz : (k : Int) < (i : Int) - 1 := by omega
          have p2a : (0 : Int) ≤ (k : Int) := by omega
          have b2a : (k : Int) < (d.size : Int) := by omega
          obtain ⟨N2b, hN2b⟩ : ∃ q, q = k + 1 := ⟨_, rfl⟩
          have e2b : ((k : Int) + 1).toNat = N2b := by omega
          have p2b : (0 : Int) ≤ (k : Int) + 1 := by omega
          have b2b : (k : Int) + 1 < (d.size : Int) := by omega
          have r2b : IntKind.i64.wrap ((k : Int) + 1) = (k : Int) + 1 := by rw [IntKind.wrap_i64]; omega
          obtain ⟨x2, hx2⟩ : ∃ x, x = dk[k]! := ⟨_, rfl⟩
          obtain ⟨y2, hy2⟩ : ∃ x, x = dk[k + 1]! := ⟨_, rfl⟩
          have S3 : Aside (SI w0 blk off (swp dk (k) (k + 1)) ((((wr.setCell ⟨blk, off + k * 2, none⟩ (.int .i64 y2.1)).setCell ⟨blk, off + k * 2 + 1, none⟩ (.int .i64 y2.2)).setCell ⟨blk, off + N2b * 2, none⟩ (.int .i64 x2.1)).setCell ⟨blk, off + N2b * 2 + 1, none⟩ (.int .i64 x2.2)).drew) := by rw [hN2b, hx2, hy2]; exact si_swapped S1.out R (k) (k + 1) (by omega) (by omega)
          obtain ⟨c2ap, c2aq⟩ := si_c S1.out R (by omega) (k) (by omega)
          obtain ⟨c2bp, c2bq⟩ := si_c S1.out R (by omega) (k + 1) (by omega)
          obtain ⟨f2ap, f2aq⟩ := si_f S1.out R (by omega) (k) (by omega)
          obtain ⟨f2bp, f2bq⟩ := si_f S1.out R (by omega) (k + 1) (by omega)
          obtain ⟨⟨u2, c2c⟩, ⟨u2d, c2d⟩, ⟨u2e, c2e⟩⟩ := si_c2 S1.out R (by omega) (k) (k + 1) (by omega) (by omega) (.int .i64 y2.1) (.int .i64 y2.2) (.int .i64 x2.1)
          rw [← hN2b] at c2d c2e
          try rw [← hN2b] at c2c
          rw [← hx2] at c2ap c2aq
          rw [← hy2, ← hN2b] at c2bp c2bq
          rw [← hN2b] at f2bp f2bq
          clear S1 hx2 hy2 hN2b
          go_wp2_with fail
          go_big_region_o
          clear c2ap c2aq c2bp c2bq c2c c2d c2e f2ap f2aq f2bp f2bq
          generalize ((((wr.setCell ⟨blk, off + k * 2, none⟩ (.int .i64 y2.1)).setCell ⟨blk, off + k * 2 + 1, none⟩ (.int .i64 y2.2)).setCell ⟨blk, off + N2b * 2, none⟩ (.int .i64 x2.1)).setCell ⟨blk, off + N2b * 2 + 1, none⟩ (.int .i64 x2.2)).drew = w3 at S3 ⊢
          clear e2b
          go_wp2
          go_roundw
          case rel => exact ⟨k + 1, swp dk k (k + 1), by go_num, by omega, by omega, by rw [size_swp]; exact hsk, S3, HI.out.up hak (by omega), permIn_trans _ _ _ _ _ HP.out (swp_permIn _ _ _ _ _ (by omega) (by omega) (by omega) (by omega) (by omega))⟩
          case measure => simp [intOf]; omega
        · have hkz : ¬ (k : Int) < (i : Int) - 1 := by omega
          have hki2 : k + 1 = i := by omega
          have HF : Hid (Sorted cf v dk a b) := by
            have h1 := HI.out
            rw [hki2] at h1
            refine rot_sorted h1 (Nat.le_refl _) (by omega) (by omega) (by omega) (fun p q h1 h2 h3 => by omega) HS2.out (fun x y h1 h2 h3 h4 => by omega) (fun x y h1 h2 h3 h4 => ?_) (fun x y h1 h2 h3 h4 => ?_)
            · rw [show x = a by omega]; exact HL.out y h3 h4
            · rw [show x = a by omega]; exact HR.out y h3 h4
          go_wp2
          refine bodyPost_ret (results_none rfl _ _ _) rfl ?_
          exact ⟨rfl, dk, HP.out, HF.out, S1.out⟩
set_option maxHeartbeats 16000000 in
set_option maxRecDepth 1000000 in
/-- the right part is one element -/
theorem symRightK (cf : It → It → Int) (v : It → Int) (g : Nat) (cb : Array Value) (blk off cap a m b : Nat) (d0 d : Array It) (w0 w : World) (hw : Weak cf)
    (eg : ∀ args w, (callFunc g args).run Try.prog w = .ok (.enter g args) w) (hcmp : CmpLays Try.prog g cb itV 2 cf blk off d0.size w0) (R : RI w0 blk off d0) (hs : d0.size = d.size) (S : SI w0 blk off d w) (hb : b ≤ d.size) (hsz : d.size < 4611686018427387904)
    (ham : a + 1 < m) (hmb : b = m + 1) (hs1 : Sorted cf v d a m) (hv : ∀ x, a ≤ x → x < m → v d[x]! < v d[m]!) (zb : Int) (hzb : zb = (m : Int) + 1) :
    Calls Try.prog 41 #[.slice (some ⟨blk, off, none⟩) d.size cap, .int .i64 a, .int .i64 m, .int .i64 zb, .func (.func g) #[] cb] w fun e w' => e = .returned (.tuple #[]) ∧ ∃ d', PermIn a b d d' ∧ Sorted cf v d' a b ∧ SI w0 blk off d' w' := by
  have mixed : Try.prog.follows .mixedOrders = true := by kernel_rfl
  have HC : Aside _ := hcmp
  have S0 : Aside (SI w0 blk off d w) := S
  have HS1 := Lib.hid hs1
  have HV := Lib.hid hv
  have h0 : IntKind.i64.wrap ((m : Int) - a) = (m : Int) - a := by rw [IntKind.wrap_i64]; omega
  have h1 : ((m : Int) - a == 1) = false := beq_eq_false_iff_ne.2 (by omega)
  have h2 : IntKind.i64.wrap ((m : Int) + 1 - m) = 1 := by rw [IntKind.wrap_i64]; omega
  clear S hcmp hs1 hv
  subst hzb
  subst hmb
  go_enter Try.func41, Try.ntmps41
  go_wp2
  clear h0 h1 h2
  go_loopw [14, 15] (fun vi vj wr => ∃ (i j : Nat), vi = .int .i64 (i : Int) ∧ vj = .int .i64 (j : Int) ∧ a ≤ i ∧ i ≤ j ∧ j ≤ m ∧ Aside (SI w0 blk off d wr) ∧ Hid (∀ y, a ≤ y → y < i → Ahead cf v d[y]! d[m]!) ∧ Hid (∀ y, j ≤ y → y < m → Ahead cf v d[m]! d[y]!)) (fun vi vj _ => (intOf vj).toNat - (intOf vi).toNat)
  case atStart => exact ⟨a, m, rfl, rfl, by omega, by omega, by omega, S0, fun y h1 h2 => by omega, fun y h1 h2 => by omega⟩
  case round =>
    clear S0
    obtain ⟨i, j, rfl, rfl, hai, hij, hjb, S1, HL, HR⟩ := hrel
    by_cases hlt : i < j
    · have hltz : (i : Int) < (j : Int) := by omega
      obtain ⟨h, hh⟩ : ∃ h, h = (i + j) / 2 := ⟨_, rfl⟩
      have hhz : ((i : Int) + (j : Int)) / 2 = (h : Int) := by omega
      have hih : i ≤ h := by omega
      have hhj : h < j := by omega
      have HH := Lib.hid hh
      clear hh
      by_cases hlv : cf d[m]! d[h]! < 0
      · have HN : Hid (∀ y, h ≤ y → y < m → Ahead cf v d[m]! d[y]!) := fun y h1 h2 => HS1.out.ge hw (p := h) (by omega) h1 h2 (Or.inl hlv)
        have p1a : (0 : Int) ≤ (m : Int) := by omega
        have b1a : (m : Int) < (d.size : Int) := by omega
        have p1b : (0 : Int) ≤ (h : Int) := by omega
        have b1b : (h : Int) < (d.size : Int) := by omega
        obtain ⟨x1, hx1⟩ : ∃ x, x = d[m]! := ⟨_, rfl⟩
        obtain ⟨y1, hy1⟩ : ∃ x, x = d[h]! := ⟨_, rfl⟩
        obtain ⟨l1ap, l1aq⟩ := si_cl S1.out R (by omega) (m) (by omega)
        obtain ⟨l1bp, l1bq⟩ := si_cl S1.out R (by omega) (h) (by omega)
        rw [← hx1] at l1ap l1aq
        rw [← hy1] at l1bp l1bq
        have hc1 := si_cmp S1.out HC.out (by omega) x1 y1
        have hv1 : cf x1 y1 < 0 := by rw [hx1, hy1]; exact hlv
        have hd1 : decide (cf x1 y1 < 0) = true := decide_eq_true hv1
        clear hx1 hy1
        go_wp2_with fail
        try rw [hhz]
        go_quiet_grown (first | (go_at_fn g; refine Calls.grown_of (hc1 _ _)))
        have S2 : Aside (SI w0 blk off d (grow (wr.drewN nq) osq)) := S1.out.grown nq osq
        clear l1ap l1aq l1bp l1bq hc1 S1
        generalize grow (wr.drewN nq) osq = w2 at S2 ⊢
        clear nq osq
        clear hlv hhz
        go_wp2
        go_roundw
        case rel => exact ⟨i, h, rfl, rfl, hai, by omega, by omega, S2, HL, HN⟩
        case measure => simp [intOf]; omega
      · have HN : Hid (∀ y, a ≤ y → y < h + 1 → Ahead cf v d[y]! d[m]!) := fun y h1 h2 => HS1.out.le hw (q := h) h1 (by omega) (by omega) (Ahead.of_not hw hlv (HV.out h (by omega) (by omega)))
        have p1a : (0 : Int) ≤ (m : Int) := by omega
        have b1a : (m : Int) < (d.size : Int) := by omega
        have p1b : (0 : Int) ≤ (h : Int) := by omega
        have b1b : (h : Int) < (d.size : Int) := by omega
        obtain ⟨x1, hx1⟩ : ∃ x, x = d[m]! := ⟨_, rfl⟩
        obtain ⟨y1, hy1⟩ : ∃ x, x = d[h]! := ⟨_, rfl⟩
        obtain ⟨l1ap, l1aq⟩ := si_cl S1.out R (by omega) (m) (by omega)
        obtain ⟨l1bp, l1bq⟩ := si_cl S1.out R (by omega) (h) (by omega)
        rw [← hx1] at l1ap l1aq
        rw [← hy1] at l1bp l1bq
        have hc1 := si_cmp S1.out HC.out (by omega) x1 y1
        have hv1 : ¬ cf x1 y1 < 0 := by rw [hx1, hy1]; exact hlv
        have hd1 : decide (cf x1 y1 < 0) = false := decide_eq_false hv1
        clear hx1 hy1
        go_wp2_with fail
        try rw [hhz]
        go_quiet_grown (first | (go_at_fn g; refine Calls.grown_of (hc1 _ _)))
        have S2 : Aside (SI w0 blk off d (grow (wr.drewN nq) osq)) := S1.out.grown nq osq
        clear l1ap l1aq l1bp l1bq hc1 S1
        generalize grow (wr.drewN nq) osq = w2 at S2 ⊢
        clear nq osq
        clear hlv hhz
        go_wp2
        go_roundw
        case rel => exact ⟨h + 1, j, by go_num, rfl, by omega, by omega, hjb, S2, HN, HR⟩
        case measure => simp [intOf]; omega
    · have hltz : ¬ (i : Int) < (j : Int) := by omega
      have hij2 : i = j := by omega
      subst hij2
      go_wp2
      go_loopw [17] (fun vk wr => ∃ (k : Nat) (dk : Array It), vk = .int .i64 (k : Int) ∧ i ≤ k ∧ k ≤ m ∧ dk.size = d.size ∧ Aside (SI w0 blk off dk wr) ∧ Hid (IsRot d dk k m (m + 1)) ∧ Hid (PermIn a (m + 1) d dk)) (fun vk _ => (intOf vk).toNat)
      case atStart => exact ⟨m, d, rfl, by omega, Nat.le_refl _, rfl, S1, IsRot.none d (Or.inl rfl) (by omega) (by omega), permIn_refl _ _ _⟩
      case round =>
        clear S1
        obtain ⟨k, dk, rfl, hik, hkm, hsk, S1, HI, HP⟩ := hrel
        by_cases hk : i < k
        · have hkz : (i : Int) < (k : Int) := by omega
          obtain ⟨kp, hkp⟩ : ∃ q, q + 1 = k := ⟨k - 1, by omega⟩
          have hkpz : (k : Int) - 1 = (kp : Int) := by omega
          have hkpw : IntKind.i64.wrap ((k : Int) - 1) = (kp : Int) := by rw [IntKind.wrap_i64]; omega
          have p2a : (0 : Int) ≤ (k : Int) := by omega
          have b2a : (k : Int) < (d.size : Int) := by omega
          have p2b : (0 : Int) ≤ (kp : Int) := by omega
          have b2b : (kp : Int) < (d.size : Int) := by omega
          obtain ⟨x2, hx2⟩ : ∃ x, x = dk[k]! := ⟨_, rfl⟩
          obtain ⟨y2, hy2⟩ : ∃ x, x = dk[kp]! := ⟨_, rfl⟩
          have S3 : Aside (SI w0 blk off (swp dk (k) (kp)) ((((wr.setCell ⟨blk, off + k * 2, none⟩ (.int .i64 y2.1)).setCell ⟨blk, off + k * 2 + 1, none⟩ (.int .i64 y2.2)).setCell ⟨blk, off + kp * 2, none⟩ (.int .i64 x2.1)).setCell ⟨blk, off + kp * 2 + 1, none⟩ (.int .i64 x2.2)).drew) := by rw [hx2, hy2]; exact si_swapped S1.out R (k) (kp) (by omega) (by omega)
          obtain ⟨c2ap, c2aq⟩ := si_c S1.out R (by omega) (k) (by omega)
          obtain ⟨c2bp, c2bq⟩ := si_c S1.out R (by omega) (kp) (by omega)
          obtain ⟨f2ap, f2aq⟩ := si_f S1.out R (by omega) (k) (by omega)
          obtain ⟨f2bp, f2bq⟩ := si_f S1.out R (by omega) (kp) (by omega)
          obtain ⟨⟨u2, c2c⟩, ⟨u2d, c2d⟩, ⟨u2e, c2e⟩⟩ := si_c2 S1.out R (by omega) (k) (kp) (by omega) (by omega) (.int .i64 y2.1) (.int .i64 y2.2) (.int .i64 x2.1)
          rw [← hx2] at c2ap c2aq
          rw [← hy2] at c2bp c2bq
          clear S1 hx2 hy2
          go_wp2_with fail
          go_big_region_o
          clear c2ap c2aq c2bp c2bq c2c c2d c2e f2ap f2aq f2bp f2bq
          generalize ((((wr.setCell ⟨blk, off + k * 2, none⟩ (.int .i64 y2.1)).setCell ⟨blk, off + k * 2 + 1, none⟩ (.int .i64 y2.2)).setCell ⟨blk, off + kp * 2, none⟩ (.int .i64 x2.1)).setCell ⟨blk, off + kp * 2 + 1, none⟩ (.int .i64 x2.2)).drew = w3 at S3 ⊢
          go_wp2
          go_roundw
          case rel =>
            refine ⟨kp, swp dk k kp, by first | rfl | go_num | (congr 1; omega), by omega, by omega, by rw [size_swp]; exact hsk, S3, ?_, permIn_trans _ _ _ _ _ HP.out (swp_permIn _ _ _ _ _ (by omega) (by omega) (by omega) (by omega) (by omega))⟩
            have h1 := HI.out
            rw [← hkp] at h1 ⊢
            exact h1.down (by omega) (by omega)
          case measure => simp [intOf]; omega
        · have hkz : ¬ (i : Int) < (k : Int) := by omega
          have hki2 : k = i := by omega
          have HF : Hid (Sorted cf v dk a (m + 1)) := by
            have h1 := HI.out
            rw [hki2] at h1
            refine rot_sorted h1 (by omega) (by omega) (by omega) (by omega) HS1.out (fun p q h1 h2 h3 => by omega) (fun x y h1 h2 h3 h4 => ?_) (fun x y h1 h2 h3 h4 => ?_) (fun x y h1 h2 h3 h4 => by omega)
            · rw [show y = m by omega]; exact HL.out x h1 h2
            · rw [show y = m by omega]; exact HR.out x h1 h2
          go_wp2
          refine bodyPost_ret (results_none rfl _ _ _) rfl ?_
          exact ⟨rfl, dk, HP.out, HF.out, S1.out⟩
end Go.Proofs.Ytejbilcofbjpiaa
