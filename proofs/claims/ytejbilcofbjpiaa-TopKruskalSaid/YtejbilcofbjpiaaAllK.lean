/- slices.symMergeCmpFunc over a row of items: two sorted neighbouring parts become one: at whatever length. Conditions: the comparison is one by a weak order and answers by its contract. -/
import Derived.Test.YtejbilcofbjpiaaMergeK
import Derived.Deep.DeepCutAuto
import Derived.Deep.CutRange
namespace Go.Proofs.Ytejbilcofbjpiaa
open Go.Shelf Go.RowKit Go.Lib Go.Sort Go.Proofs
set_option maxHeartbeats 16000000 in
set_option maxRecDepth 1000000 in
theorem symMerge_sK (cf : It → It → Int) (v : It → Int) (g : Nat) (cb : Array Value) (blk off cap : Nat) (d0 : Array It) (w0 : World) (hw : Weak cf)
    (eg : ∀ args w, (callFunc g args).run Try.prog w = .ok (.enter g args) w) (hcmp : CmpLays Try.prog g cb itV 2 cf blk off d0.size w0) (R : RI w0 blk off d0) (hsz : d0.size < 4611686018427387904) :
    ∀ (K a m b : Nat) (d : Array It) (w : World) (za zm zb : Int), za = a → zm = m → zb = b → b - a ≤ K → d0.size = d.size → SI w0 blk off d w → a < m → m < b → b ≤ d.size → Sorted cf v d a m → Sorted cf v d m b → (∀ x y, a ≤ x → x < m → m ≤ y → y < b → v d[x]! < v d[y]!) →
    Calls Try.prog 41 #[.slice (some ⟨blk, off, none⟩) d0.size cap, .int .i64 za, .int .i64 zm, .int .i64 zb, .func (.func g) #[] cb] w fun e w' => e = .returned (.tuple #[]) ∧ ∃ d', PermIn a b d d' ∧ Sorted cf v d' a b ∧ SI w0 blk off d' w' := by
  intro K
  induction K with
  | zero => intro a m b d w za zm zb _ _ _ h _ _ h1 h2; omega
  | succ K ih =>
    intro a m b d w za zm zb hza hzm hzb hK hs S ham hmb hb hs1 hs2 hv
    subst hza hzm hzb
    rw [hs]
    by_cases hl : m = a + 1
    · subst hl
      exact symLeftK cf v g cb blk off cap a b d0 d w0 w hw eg hcmp R hs S hb (by omega) (by omega) hs2 (fun y h1 h2 => hv a y (Nat.le_refl _) (by omega) h1 h2) _ (by omega)
    by_cases hr : b = m + 1
    · exact symRightK cf v g cb blk off cap a m b d0 d w0 w hw eg hcmp R hs S hb (by omega) (by omega) hr hs1 (fun x h1 h2 => hv x m h1 h2 (Nat.le_refl _) (by omega)) _ (by omega)
    rw [hs] at hsz
    have mixed : Try.prog.follows .mixedOrders = true := by kernel_rfl
    have HC : Aside _ := hcmp
    have S0 : Aside (SI w0 blk off d w) := S
    have HS1 := Lib.hid hs1
    have HS2 := Lib.hid hs2
    have HV := Lib.hid hv
    have HIH := Lib.hid ih
    obtain ⟨q, hq⟩ : ∃ q, q = (a + b) / 2 := ⟨_, rfl⟩
    obtain ⟨nn, hnn⟩ : ∃ k, k = q + m := ⟨_, rfl⟩
    obtain ⟨pp, hpp⟩ : ∃ k, k + 1 = nn := ⟨nn - 1, by omega⟩
    have hex : ∃ lo r, lo ≤ r ∧ ((q < m ∧ lo = nn - b ∧ r = q) ∨ (¬ q < m ∧ lo = a ∧ r = m)) := by
      by_cases h : q < m
      · exact ⟨nn - b, q, by omega, Or.inl ⟨h, rfl, rfl⟩⟩
      · exact ⟨a, m, by omega, Or.inr ⟨h, rfl, rfl⟩⟩
    obtain ⟨lo, r, hlr, hlo⟩ := hex
    have hqz : ((a : Int) + (b : Int)) / 2 = (q : Int) := by omega
    have hnz : (q : Int) + (m : Int) = (nn : Int) := by omega
    have hpz : (nn : Int) - 1 = (pp : Int) := by omega
    have hloa : a ≤ lo := by omega
    have hrm : r ≤ m := by omega
    have hlob : nn ≤ lo + b := by omega
    have hrn : r + m ≤ nn := by omega
    have hn1 : IntKind.i64.wrap ((m : Int) - a) = (m : Int) - a := by rw [IntKind.wrap_i64]; omega
    have hn2 : ((m : Int) - a == 1) = false := beq_eq_false_iff_ne.2 (by omega)
    have hn3 : IntKind.i64.wrap ((b : Int) - m) = (b : Int) - m := by rw [IntKind.wrap_i64]; omega
    have hn4 : ((b : Int) - m == 1) = false := beq_eq_false_iff_ne.2 (by omega)
    have HQ := Lib.hid (And.intro hq (And.intro hnn hpp))
    have HLO := Lib.hid hlo
    have HNE := Lib.hid (And.intro hl hr)
    clear S hcmp hs1 hs2 hv ih hq hnn hlo hl hr
    go_enter Try.func41, Try.ntmps41
    go_upto_if 140 with fail
    clear hn1 hn2 hn3 hn4
    go_cut [20, 21] from 138 to 146 (fun v1 v2 wx => v1 = .int .i64 (lo : Int) ∧ v2 = .int .i64 (r : Int) ∧ w = wx)
    case first =>
      rcases HLO.out with ⟨h, e1, e2⟩ | ⟨h, e1, e2⟩
      · have hz : (q : Int) < (m : Int) := by omega
        have hqq := HQ.out
        have hw1 : (nn : Int) - (b : Int) = (lo : Int) := by omega
        subst e2
        clear e1 hqq
        go_wp2
        go_meet
        exact ⟨by first | rfl | exact int_eq (by omega), by first | rfl | exact int_eq (by omega), rfl⟩
      · have hz : ¬ (q : Int) < (m : Int) := by omega
        subst e1 e2
        go_wp2
        go_meet
        exact ⟨by first | rfl | exact int_eq (by omega), by first | rfl | exact int_eq (by omega), rfl⟩
    case rest =>
    obtain ⟨rfl, rfl, rfl⟩ := hcut
    go_wp2
    go_loopw [20, 21] (fun vi vj wr => ∃ (st rr : Nat), vi = .int .i64 (st : Int) ∧ vj = .int .i64 (rr : Int) ∧ lo ≤ st ∧ st ≤ rr ∧ rr ≤ r ∧ Aside (SI w0 blk off d wr) ∧ Hid (lo < st → Ahead cf v d[st - 1]! d[nn - st]!) ∧ Hid (rr < r → Ahead cf v d[nn - 1 - rr]! d[rr]!)) (fun vi vj _ => (intOf vj).toNat - (intOf vi).toNat)
    case atStart => exact ⟨lo, r, rfl, rfl, Nat.le_refl _, hlr, Nat.le_refl _, S0, fun h => by omega, fun h => by omega⟩
    case round =>
      clear S0
      obtain ⟨st, rr, rfl, rfl, hls, hsr, hrr, S1, HL, HR⟩ := hrel
      by_cases hlt : st < rr
      · have hltz : (st : Int) < (rr : Int) := by omega
        obtain ⟨c, hh⟩ : ∃ c, c = (st + rr) / 2 := ⟨_, rfl⟩
        have hhz : ((st : Int) + (rr : Int)) / 2 = (c : Int) := by omega
        have hih : st ≤ c := by omega
        have hhj : c < rr := by omega
        have HH := Lib.hid hh
        clear hh
        obtain ⟨t, ht⟩ : ∃ t, t = pp - c := ⟨_, rfl⟩
        have htz : (pp : Int) - (c : Int) = (t : Int) := by omega
        have htw : IntKind.i64.wrap (t : Int) = (t : Int) := by rw [IntKind.wrap_i64]; omega
        have htm : m ≤ t := by have := HLO.out; omega
        have htb : t < b := by omega
        have HT := Lib.hid ht
        clear ht
        by_cases hlv : cf d[t]! d[c]! < 0
        · have HN : Hid (c < r → Ahead cf v d[nn - 1 - c]! d[c]!) := fun _ => by rw [show nn - 1 - c = t by have := HT.out; omega]; exact Or.inl hlv
          have p1a : (0 : Int) ≤ (t : Int) := by omega
          have b1a : (t : Int) < (d.size : Int) := by omega
          have p1b : (0 : Int) ≤ (c : Int) := by omega
          have b1b : (c : Int) < (d.size : Int) := by omega
          obtain ⟨x1, hx1⟩ : ∃ x, x = d[t]! := ⟨_, rfl⟩
          obtain ⟨y1, hy1⟩ : ∃ x, x = d[c]! := ⟨_, rfl⟩
          obtain ⟨l1ap, l1aq⟩ := si_cl S1.out R (by omega) (t) (by omega)
          obtain ⟨l1bp, l1bq⟩ := si_cl S1.out R (by omega) (c) (by omega)
          rw [← hx1] at l1ap l1aq
          rw [← hy1] at l1bp l1bq
          have hc1 := si_cmp S1.out HC.out (by omega) x1 y1
          have hv1 : cf x1 y1 < 0 := by rw [hx1, hy1]; exact hlv
          have hd1 : decide (cf x1 y1 < 0) = true := decide_eq_true hv1
          clear hx1 hy1
          go_wp2_with fail
          try rw [hhz]
          go_quiet_grown (first | (go_at_fn g; refine Calls.grown_of (hc1 _ _)))
          have S2 : Aside (SI w0 blk off d (grow (wr.drewN nq) osq)) := S1.out.grown nq osq
          clear l1ap l1aq l1bp l1bq hc1 S1
          generalize grow (wr.drewN nq) osq = w2 at S2 ⊢
          clear nq osq
          clear hlv hhz
          go_wp2
          go_roundw
          case rel => exact ⟨st, c, rfl, rfl, hls, by omega, by omega, S2, HL, HN⟩
          case measure => simp [intOf]; omega
        · have HN : Hid (lo < c + 1 → Ahead cf v d[c + 1 - 1]! d[nn - (c + 1)]!) := fun _ => by
            rw [show nn - (c + 1) = t by have := HT.out; omega, show c + 1 - 1 = c by omega]
            exact Ahead.of_not hw hlv (HV.out c t (by omega) (by omega) (by omega) (by omega))
          have p1a : (0 : Int) ≤ (t : Int) := by omega
          have b1a : (t : Int) < (d.size : Int) := by omega
          have p1b : (0 : Int) ≤ (c : Int) := by omega
          have b1b : (c : Int) < (d.size : Int) := by omega
          obtain ⟨x1, hx1⟩ : ∃ x, x = d[t]! := ⟨_, rfl⟩
          obtain ⟨y1, hy1⟩ : ∃ x, x = d[c]! := ⟨_, rfl⟩
          obtain ⟨l1ap, l1aq⟩ := si_cl S1.out R (by omega) (t) (by omega)
          obtain ⟨l1bp, l1bq⟩ := si_cl S1.out R (by omega) (c) (by omega)
          rw [← hx1] at l1ap l1aq
          rw [← hy1] at l1bp l1bq
          have hc1 := si_cmp S1.out HC.out (by omega) x1 y1
          have hv1 : ¬ cf x1 y1 < 0 := by rw [hx1, hy1]; exact hlv
          have hd1 : decide (cf x1 y1 < 0) = false := decide_eq_false hv1
          clear hx1 hy1
          go_wp2_with fail
          try rw [hhz]
          go_quiet_grown (first | (go_at_fn g; refine Calls.grown_of (hc1 _ _)))
          have S2 : Aside (SI w0 blk off d (grow (wr.drewN nq) osq)) := S1.out.grown nq osq
          clear l1ap l1aq l1bp l1bq hc1 S1
          generalize grow (wr.drewN nq) osq = w2 at S2 ⊢
          clear nq osq
          clear hlv hhz
          go_wp2
          go_roundw
          case rel => exact ⟨c + 1, rr, by go_num, rfl, by omega, by omega, hrr, S2, HN, HR⟩
          case measure => simp [intOf]; omega
      · have hltz : ¬ (st : Int) < (rr : Int) := by omega
        have hij2 : st = rr := by omega
        subst hij2
        obtain ⟨en, hen⟩ : ∃ k, k = nn - st := ⟨_, rfl⟩
        have henz : (nn : Int) - (st : Int) = (en : Int) := by omega
        have HCUT : Hid (Cutting cf v d a m b st en) := by
          show Cutting cf v d a m b st en
          rw [hen]
          have hqq := HQ.out
          refine Cutting.of hw (lo := lo) (r := r) ham hmb HS1.out HS2.out (by omega) hls hrr ?_ HL.out HR.out
          rcases HLO.out with ⟨h1, h2, h3⟩ | ⟨h1, h2, h3⟩
          · exact Or.inl ⟨by omega, h2, by omega⟩
          · exact Or.inr ⟨by omega, h2, h3⟩
        obtain ⟨k1, k2, k3, k4, k5, _, _⟩ := HCUT.out
        have hqq := HQ.out.1
        have hse : st + en = q + m := by omega
        clear hen HL HR hqq k5
        go_upto_region 39 with fail
        try rw [henz]
        obtain ⟨B1, hB1⟩ : ∃ B, B = decide (st < m ∧ m < en) := ⟨_, rfl⟩
        have HB1 := Lib.hid hB1
        clear hB1
        go_cut [185] from 178 to 185 (fun x wx => x = .bool B1 ∧ wr = wx)
        case first =>
          by_cases h1 : st < m
          · have h1z : (st : Int) < (m : Int) := by omega
            by_cases h2 : m < en
            · have h2z : (m : Int) < (en : Int) := by omega
              have HE : Hid (B1 = true) := HB1.out.trans (decide_eq_true ⟨h1, h2⟩)
              go_wp2
              go_meet
              exact ⟨by rw [HE.out], rfl⟩
            · have h2z : ¬ (m : Int) < (en : Int) := by omega
              have HE : Hid (B1 = false) := HB1.out.trans (decide_eq_false (fun e => h2 e.2))
              go_wp2
              go_meet
              exact ⟨by rw [HE.out], rfl⟩
          · have h1z : ¬ (st : Int) < (m : Int) := by omega
            have HE : Hid (B1 = false) := HB1.out.trans (decide_eq_false (fun e => h1 e.1))
            go_wp2
            go_meet
            exact ⟨by rw [HE.out], rfl⟩
        case rest =>
        obtain ⟨rfl, rfl⟩ := hcut
        go_upto_if 185 with fail
        go_cut [185] from 185 to 191 (fun x wx => x = .bool B1 ∧ ∃ d2, Hid (IsRot d d2 st m en) ∧ Hid (PermIn a b d d2) ∧ Aside (SI w0 blk off d2 wx))
        case first =>
          cases B1 with
          | true =>
            have hh := of_decide_eq_true HB1.out.symm
            have c1 := rotate_sK (.func (.func g) #[] cb) blk off cap st m en d0 d w0 wr (st : Int) (m : Int) (en : Int) rfl rfl rfl R hs S1.out hh.1 hh.2 (by omega) (by omega)
            have C1 := Lib.hid c1
            clear c1 hh
            go_wp2_with fail
            refine C1.out.mono ?_
            rintro e w3 ⟨rfl, d2, h1, h2, h3⟩
            have H1 := Lib.hid h1
            have H2 : Hid (PermIn a b d d2) := permIn_mono _ _ _ _ _ _ (by omega) (by omega) hb h2
            have H3 : Aside _ := h3
            clear h1 h2 h3 C1
            go_wp2
            go_meet
            exact ⟨rfl, d2, H1, H2, H3⟩
          | false =>
            have hh := of_decide_eq_false HB1.out.symm
            have H1 : Hid (IsRot d d st m en) := IsRot.none d (by omega) (by omega) (by omega)
            clear hh
            go_wp2
            go_meet
            exact ⟨rfl, d, H1, permIn_refl _ _ _, S1⟩
        case rest =>
        obtain ⟨rfl, d2, HROT, HP2, S2⟩ := hcut
        clear S1 HB1
        have hz2 : d2.size = d.size := HROT.out.1
        have HZ2 := Lib.hid hz2
        have hpt := HCUT.out.parts HROT.out HS1.out HS2.out HV.out
        have hcx := HCUT.out.cross hw HROT.out HS1.out HS2.out
        rw [← HQ.out.1] at hpt hcx
        obtain ⟨p1, p2, p3, p4, p5, p6⟩ := hpt
        have HP1 := Lib.hid p1
        have HP2' := Lib.hid p2
        have HP3 := Lib.hid p3
        have HP4 := Lib.hid p4
        have HP5 := Lib.hid p5
        have HP6 := Lib.hid p6
        have HCX := Lib.hid hcx
        have hqb : q < b := by have := HQ.out; omega
        have haq : a < q := by have := HQ.out; have := HNE.out; omega
        have hKq : q - a ≤ K := by have := HQ.out; omega
        have hKb : b - q ≤ K := by have := HQ.out; omega
        clear hz2 p1 p2 p3 p4 p5 p6 hcx
        obtain ⟨B2, hB2⟩ : ∃ B, B = decide (a < st ∧ st < q) := ⟨_, rfl⟩
        have HB2 := Lib.hid hB2
        clear hB2
        go_upto_region 41 with fail
        go_cut [199] from 185 to 199 (fun x wx => x = .bool B2 ∧ wc = wx)
        case first =>
          by_cases h1 : a < st
          · have h1z : (a : Int) < (st : Int) := by omega
            by_cases h2 : st < q
            · have h2z : (st : Int) < (q : Int) := by omega
              have HE : Hid (B2 = true) := HB2.out.trans (decide_eq_true ⟨h1, h2⟩)
              go_wp2
              go_meet
              exact ⟨by rw [HE.out], rfl⟩
            · have h2z : ¬ (st : Int) < (q : Int) := by omega
              have HE : Hid (B2 = false) := HB2.out.trans (decide_eq_false (fun e => h2 e.2))
              go_wp2
              go_meet
              exact ⟨by rw [HE.out], rfl⟩
          · have h1z : ¬ (a : Int) < (st : Int) := by omega
            have HE : Hid (B2 = false) := HB2.out.trans (decide_eq_false (fun e => h1 e.1))
            go_wp2
            go_meet
            exact ⟨by rw [HE.out], rfl⟩
        case rest =>
        obtain ⟨rfl, rfl⟩ := hcut
        go_upto_if 199 with fail
        go_cut [199] from 185 to 205 (fun x wx => x = .bool B2 ∧ ∃ d3, Hid (PermIn a q d2 d3) ∧ Hid (Sorted cf v d3 a q) ∧ Aside (SI w0 blk off d3 wx))
        case first =>
          cases B2 with
          | true =>
            have hh := of_decide_eq_true HB2.out.symm
            have c1 := HIH.out a st q d2 wc (a : Int) (st : Int) (q : Int) rfl rfl rfl hKq (hs.trans HZ2.out.symm) S2.out hh.1 hh.2 (by rw [HZ2.out]; omega) HP1.out HP2'.out HP5.out
            rw [hs] at c1
            have C1 := Lib.hid c1
            clear c1 hh
            go_wp2_with fail
            refine C1.out.mono ?_
            rintro e w3 ⟨rfl, d3, h1, h2, h3⟩
            have H1 := Lib.hid h1
            have H2 := Lib.hid h2
            have H3 : Aside _ := h3
            clear h1 h2 h3 C1
            go_wp2
            go_meet
            exact ⟨rfl, d3, H1, H2, H3⟩
          | false =>
            have hh := of_decide_eq_false HB2.out.symm
            have H1 : Hid (Sorted cf v d2 a q) := by
              rcases Nat.lt_or_ge a st with h | h
              · have : q ≤ st := by omega
                exact HP1.out.part (Nat.le_refl _) this
              · exact HP2'.out.part (by omega) (Nat.le_refl _)
            clear hh
            go_wp2
            go_meet
            exact ⟨rfl, d2, permIn_refl _ _ _, H1, S2⟩
        case rest =>
        obtain ⟨rfl, d3, HQ3, HS3, S3⟩ := hcut
        clear S2 HB2
        obtain ⟨B3, hB3⟩ : ∃ B, B = decide (q < en ∧ en < b) := ⟨_, rfl⟩
        have HB3 := Lib.hid hB3
        clear hB3
        go_upto_region 43 with fail
        go_cut [213] from 185 to 213 (fun x wx => x = .bool B3 ∧ wc = wx)
        case first =>
          by_cases h1 : q < en
          · have h1z : (q : Int) < (en : Int) := by omega
            by_cases h2 : en < b
            · have h2z : (en : Int) < (b : Int) := by omega
              have HE : Hid (B3 = true) := HB3.out.trans (decide_eq_true ⟨h1, h2⟩)
              go_wp2
              go_meet
              exact ⟨by rw [HE.out], rfl⟩
            · have h2z : ¬ (en : Int) < (b : Int) := by omega
              have HE : Hid (B3 = false) := HB3.out.trans (decide_eq_false (fun e => h2 e.2))
              go_wp2
              go_meet
              exact ⟨by rw [HE.out], rfl⟩
          · have h1z : ¬ (q : Int) < (en : Int) := by omega
            have HE : Hid (B3 = false) := HB3.out.trans (decide_eq_false (fun e => h1 e.1))
            go_wp2
            go_meet
            exact ⟨by rw [HE.out], rfl⟩
        case rest =>
        obtain ⟨rfl, rfl⟩ := hcut
        have hz3 : d3.size = d2.size := HQ3.out.1
        have hkeep : ∀ k, q ≤ k → d3[k]! = d2[k]! := fun k hk => HQ3.out.2.1 k (Or.inr hk)
        have HT3 : Hid (Sorted cf v d3 q en) := fun x y h1 h2 h3 => by rw [hkeep x (by omega), hkeep y (by omega)]; exact HP3.out x y h1 h2 h3
        have HT4 : Hid (q ≤ en → Sorted cf v d3 en b) := fun h x y h1 h2 h3 => by rw [hkeep x (by omega), hkeep y (by omega)]; exact HP4.out x y h1 h2 h3
        have HT5 : Hid (∀ x y, q ≤ x → x < en → en ≤ y → y < b → v d3[x]! < v d3[y]!) := fun x y h1 h2 h3 h4 => by rw [hkeep x (by omega), hkeep y (by omega)]; exact HP6.out x y h1 h2 h3 h4
        have HZ3 : Hid (d3.size = d.size) := hz3.trans HZ2.out
        have HFIN : Hid (∀ f, PermIn q b d3 f → Sorted cf v f q b → Sorted cf v f a b ∧ PermIn a b d f) := fun f h1 h2 => by
          have h := merged (by omega) (by omega) (by rw [HZ2.out]; exact hb) HCX.out HQ3.out h1 HS3.out h2
          exact ⟨h.1, permIn_trans _ _ _ _ _ HP2.out h.2⟩
        clear hz3 hkeep
        cases B3 with
        | true =>
          have hh := of_decide_eq_true HB3.out.symm
          have c1 := HIH.out q en b d3 wc (q : Int) (en : Int) (b : Int) rfl rfl rfl hKb (hs.trans HZ3.out.symm) S3.out hh.1 hh.2 (by rw [HZ3.out]; exact hb) HT3.out (HT4.out (by omega)) HT5.out
          rw [hs] at c1
          have C1 := Lib.hid c1
          clear c1 hh
          go_wp2_with fail
          refine C1.out.mono ?_
          rintro e w3 ⟨rfl, d4, h1, h2, h3⟩
          have H1 := Lib.hid (HFIN.out d4 h1 h2)
          have H3 : Aside _ := h3
          clear h1 h2 h3 C1
          go_wp2
          go_end0
          exact ⟨rfl, d4, H1.out.2, H1.out.1, H3.out⟩
        | false =>
          have hh := of_decide_eq_false HB3.out.symm
          have H0 : Hid (Sorted cf v d3 q b) := by
            rcases Nat.lt_or_ge q en with h | h
            · have : b ≤ en := by omega
              exact HT3.out.part (Nat.le_refl _) this
            · have hqe : q = en := by have := HQ.out; omega
              have := HT4.out (by omega)
              rw [← hqe] at this; exact this
          have H1 := Lib.hid (HFIN.out d3 (permIn_refl _ _ _) H0.out)
          clear hh
          go_wp2
          go_end0
          exact ⟨rfl, d3, H1.out.2, H1.out.1, S3.out⟩
end Go.Proofs.Ytejbilcofbjpiaa
