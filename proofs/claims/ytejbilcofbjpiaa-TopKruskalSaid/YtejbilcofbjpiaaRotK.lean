/- slices.swapRangeCmpFunc and slices.rotateCmpFunc over a row of items: two neighbouring parts change places. Conditions: the parts lie in the row. -/
import Derived.Test.YtejbilcofbjpiaaInsK
namespace Go.Proofs.Ytejbilcofbjpiaa
open Go.Shelf Go.RowKit Go.Lib Go.Sort Go.Proofs
set_option maxHeartbeats 4000000 in
set_option maxRecDepth 1000000 in
theorem swapRange_sK (F : Value) (blk off cap a b n : Nat) (d0 d : Array It) (w0 w : World) (za zb zn : Int) (ha : za = a) (hb' : zb = b) (hn : zn = n)
    (R : RI w0 blk off d0) (hs : d0.size = d.size) (S : SI w0 blk off d w) (hab : a + n ≤ b) (hb : b + n ≤ d.size) (hsz : d.size < 4611686018427387904) :
    Calls Try.prog 51 #[.slice (some ⟨blk, off, none⟩) d.size cap, .int .i64 za, .int .i64 zb, .int .i64 zn, F] w fun e w' => e = .returned (.tuple #[]) ∧ ∃ d', IsSwapR d d' a b n ∧ PermIn a (b + n) d d' ∧ SI w0 blk off d' w' := by
  subst ha hb' hn
  have mixed : Try.prog.follows .mixedOrders = true := by kernel_rfl
  have S0 : Aside (SI w0 blk off d w) := S
  clear S
  go_enter Try.func51, Try.ntmps51
  go_wp2
  go_loopw [10] (fun vi wr => ∃ (i : Nat) (dk : Array It), vi = .int .i64 (i : Int) ∧ i ≤ n ∧ dk.size = d.size ∧ Aside (SI w0 blk off dk wr) ∧ Hid (IsSwapR d dk a b i) ∧ Hid (PermIn a (b + n) d dk)) (fun vi _ => n - (intOf vi).toNat)
  case atStart => exact ⟨0, d, rfl, Nat.zero_le _, rfl, S0, IsSwapR.zero _ _ _, permIn_refl _ _ _⟩
  case round =>
    clear S0
    obtain ⟨i, dk, rfl, hin, hsk, S1, HI, HP⟩ := hrel
    by_cases hlt : i < n
    · have hltz : (i : Int) < (n : Int) := by omega
      obtain ⟨iN, hiN⟩ : ∃ q, q = a + i := ⟨_, rfl⟩
      obtain ⟨jN, hjN⟩ : ∃ q, q = b + i := ⟨_, rfl⟩
      have ea1 : ((a : Int) + (i : Int)).toNat = iN := by omega
      have pa1 : (0 : Int) ≤ (a : Int) + (i : Int) := by omega
      have ba1 : (a : Int) + (i : Int) < (d.size : Int) := by omega
      have ra1 : IntKind.i64.wrap ((a : Int) + (i : Int)) = (a : Int) + (i : Int) := by rw [IntKind.wrap_i64]; omega
      have ec1 : ((b : Int) + (i : Int)).toNat = jN := by omega
      have pc1 : (0 : Int) ≤ (b : Int) + (i : Int) := by omega
      have bc1 : (b : Int) + (i : Int) < (d.size : Int) := by omega
      have rc1 : IntKind.i64.wrap ((b : Int) + (i : Int)) = (b : Int) + (i : Int) := by rw [IntKind.wrap_i64]; omega
      obtain ⟨x1, hx1⟩ : ∃ x, x = dk[a + i]! := ⟨_, rfl⟩
      obtain ⟨y1, hy1⟩ : ∃ x, x = dk[b + i]! := ⟨_, rfl⟩
      have S3 : Aside (SI w0 blk off (swp dk (a + i) (b + i)) ((((wr.setCell ⟨blk, off + iN * 2, none⟩ (.int .i64 y1.1)).setCell ⟨blk, off + iN * 2 + 1, none⟩ (.int .i64 y1.2)).setCell ⟨blk, off + jN * 2, none⟩ (.int .i64 x1.1)).setCell ⟨blk, off + jN * 2 + 1, none⟩ (.int .i64 x1.2)).drew) := by rw [hiN, hjN, hx1, hy1]; exact si_swapped S1.out R (a + i) (b + i) (by omega) (by omega)
      obtain ⟨c1ap, c1aq⟩ := si_c S1.out R (by omega) (a + i) (by omega)
      obtain ⟨c1bp, c1bq⟩ := si_c S1.out R (by omega) (b + i) (by omega)
      obtain ⟨f1ap, f1aq⟩ := si_f S1.out R (by omega) (a + i) (by omega)
      obtain ⟨f1bp, f1bq⟩ := si_f S1.out R (by omega) (b + i) (by omega)
      obtain ⟨⟨u1, c1c⟩, ⟨u1d, c1d⟩, ⟨u1e, c1e⟩⟩ := si_c2 S1.out R (by omega) (a + i) (b + i) (by omega) (by omega) (.int .i64 y1.1) (.int .i64 y1.2) (.int .i64 x1.1)
      rw [← hjN, ← hiN] at c1d c1e
      try rw [← hiN] at c1c
      rw [← hx1, ← hiN] at c1ap c1aq
      rw [← hy1, ← hjN] at c1bp c1bq
      rw [← hiN] at f1ap f1aq
      rw [← hjN] at f1bp f1bq
      clear S1 hx1 hy1 hiN hjN
      go_wp2_with fail
      go_big_region_o
      clear c1ap c1aq c1bp c1bq c1c c1d c1e f1ap f1aq f1bp f1bq
      generalize ((((wr.setCell ⟨blk, off + iN * 2, none⟩ (.int .i64 y1.1)).setCell ⟨blk, off + iN * 2 + 1, none⟩ (.int .i64 y1.2)).setCell ⟨blk, off + jN * 2, none⟩ (.int .i64 x1.1)).setCell ⟨blk, off + jN * 2 + 1, none⟩ (.int .i64 x1.2)).drew = w3 at S3 ⊢
      clear ea1 ec1
      go_wp2
      go_roundw
      case rel => exact ⟨i + 1, swp dk (a + i) (b + i), by go_num, by omega, by rw [size_swp]; exact hsk, S3, HI.out.step (by omega) (by omega), permIn_trans _ _ _ _ _ HP.out (swp_permIn _ _ _ _ _ (by omega) (by omega) (by omega) (by omega) (by omega))⟩
      case measure => simp [intOf]; omega
    · have hltz : ¬ (i : Int) < (n : Int) := by omega
      have hin2 : i = n := by omega
      subst hin2
      go_wp2
      go_end0
      exact ⟨rfl, dk, HI.out, HP.out, S1.out⟩

set_option maxHeartbeats 4000000 in
set_option maxRecDepth 1000000 in
theorem rotate_sK (F : Value) (blk off cap a m b : Nat) (d0 d : Array It) (w0 w : World) (za zm zb : Int) (ha : za = a) (hm : zm = m) (hb' : zb = b)
    (R : RI w0 blk off d0) (hs : d0.size = d.size) (S : SI w0 blk off d w) (ham : a < m) (hmb : m < b) (hb : b ≤ d.size) (hsz : d.size < 4611686018427387904) :
    Calls Try.prog 48 #[.slice (some ⟨blk, off, none⟩) d.size cap, .int .i64 za, .int .i64 zm, .int .i64 zb, F] w fun e w' => e = .returned (.tuple #[]) ∧ ∃ d', IsRot d d' a m b ∧ PermIn a b d d' ∧ SI w0 blk off d' w' := by
  subst ha hm hb'
  have S0 : Aside (SI w0 blk off d w) := S
  obtain ⟨i0, hi0⟩ : ∃ i, i = m - a := ⟨_, rfl⟩
  obtain ⟨j0, hj0⟩ : ∃ j, j = b - m := ⟨_, rfl⟩
  have hiz : (m : Int) - (a : Int) = (i0 : Int) := by omega
  have hjz : (b : Int) - (m : Int) = (j0 : Int) := by omega
  have HIJ := Lib.hid (And.intro hi0 hj0)
  clear S hi0 hj0
  go_enter Try.func48, Try.ntmps48
  go_wp2
  go_loopw [10, 11] (fun vi vj wr => ∃ (i j : Nat) (dk : Array It), vi = .int .i64 (i : Int) ∧ vj = .int .i64 (j : Int) ∧ 0 < i ∧ 0 < j ∧ i + a ≤ m ∧ m + j ≤ b ∧ dk.size = d.size ∧ Aside (SI w0 blk off dk wr) ∧ Hid (∀ e, IsRot dk e (m - i) m (m + j) → IsRot d e a m b) ∧ Hid (PermIn a b d dk)) (fun vi vj _ => (intOf vi).toNat + (intOf vj).toNat)
  case atStart =>
    have h1 := HIJ.out.1
    have h2 := HIJ.out.2
    refine ⟨i0, j0, d, rfl, rfl, by omega, by omega, by omega, by omega, rfl, S0, fun e he => ?_, permIn_refl _ _ _⟩
    rw [show m - i0 = a by omega, show m + j0 = b by omega] at he; exact he
  case round =>
    clear S0 hiz hjz
    obtain ⟨i, j, dk, rfl, rfl, hi, hj, him, hjm, hsk, S1, HI, HP⟩ := hrel
    have hwk : ∀ (x y : Nat) (e : Array It), a ≤ x → y ≤ b → PermIn x y dk e → PermIn a b d e := fun x y e h1 h2 h3 => permIn_trans _ _ _ _ _ HP.out (permIn_mono _ _ _ _ _ _ h1 h2 (by omega) h3)
    have HWK := Lib.hid hwk
    clear hwk
    by_cases hij : i = j
    · subst hij
      have c1 := swapRange_sK F blk off cap (m - i) m i d0 dk w0 wr ((m : Int) - (i : Int)) (m : Int) (i : Int) (by omega) rfl rfl R (by omega) S1.out (by omega) (by omega) (by omega)
      rw [hsk] at c1
      have C1 := Lib.hid c1
      clear c1
      go_wp2_with fail
      refine C1.out.mono ?_
      rintro e w3 ⟨rfl, dk', h1, h2, h3⟩
      have H1 : Hid (∃ d', IsRot d d' a m b ∧ PermIn a b d d' ∧ SI w0 blk off d' w3) := ⟨dk', HI.out _ (IsRot.last (by omega) h1), HWK.out _ _ _ (by omega) (by omega) h2, h3⟩
      clear h1 h2 h3 C1
      go_wp2
      go_end0
      exact ⟨rfl, H1.out⟩
    · have hne : ((i : Int) != (j : Int)) = true := by rw [bne_iff_ne]; omega
      by_cases hgt : j < i
      · have hgz : (j : Int) < (i : Int) := by omega
        have c1 := swapRange_sK F blk off cap (m - i) m j d0 dk w0 wr ((m : Int) - (i : Int)) (m : Int) (j : Int) (by omega) rfl rfl R (by omega) S1.out (by omega) (by omega) (by omega)
        rw [hsk] at c1
        have C1 := Lib.hid c1
        clear c1
        go_wp2_with fail
        refine C1.out.mono ?_
        rintro e w3 ⟨rfl, dk', h1, h2, h3⟩
        have H1 := Lib.hid h1
        have H2 := Lib.hid h2
        have H3 : Aside _ := h3
        clear h1 h2 h3 C1
        go_wp2
        go_roundw
        case rel => exact ⟨i - j, j, dk', by go_num, rfl, by omega, hj, by omega, by omega, by rw [H1.out.1, hsk], H3, fun e he => HI.out _ (IsRot.more (by omega) hgt H1.out he), HWK.out _ _ _ (by omega) (by omega) H2.out⟩
        case measure => simp [intOf]; omega
      · have hgz : ¬ (j : Int) < (i : Int) := by omega
        have hlt : i < j := by omega
        have c1 := swapRange_sK F blk off cap (m - i) (m + j - i) i d0 dk w0 wr ((m : Int) - (i : Int)) ((m : Int) + (j : Int) - (i : Int)) (i : Int) (by omega) (by omega) rfl R (by omega) S1.out (by omega) (by omega) (by omega)
        rw [hsk] at c1
        have C1 := Lib.hid c1
        clear c1
        go_wp2_with fail
        refine C1.out.mono ?_
        rintro e w3 ⟨rfl, dk', h1, h2, h3⟩
        have H1 := Lib.hid h1
        have H2 := Lib.hid h2
        have H3 : Aside _ := h3
        clear h1 h2 h3 C1
        go_wp2
        go_roundw
        case rel => exact ⟨i, j - i, dk', rfl, by go_num, hi, by omega, by omega, by omega, by rw [H1.out.1, hsk], H3, fun e he => HI.out _ (IsRot.less (by omega) hlt H1.out he), HWK.out _ _ _ (by omega) (by omega) H2.out⟩
        case measure => simp [intOf]; omega
end Go.Proofs.Ytejbilcofbjpiaa
