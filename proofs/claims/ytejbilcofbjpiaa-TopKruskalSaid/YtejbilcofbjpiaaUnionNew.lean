/- What union.New and Many answer. Conditions: none. -/
import Derived.Test.YtejbilcofbjpiaaUnionJoin
namespace Go.Proofs.Ytejbilcofbjpiaa
open Go.RowKit

theorem own_grown_ne {w w' : World} {base e size n : Nat} {v : Value} {xs : List Value} {row : Option Nat} (ho : w.ownsRow base e size v n xs) (hg : w.grownBy w' row) (hne : ∀ g, v.ownBlock = some g → row ≠ some g) : w'.ownsRow base e size v n xs := by
  obtain ⟨h1, h2⟩ := ho
  refine ⟨h1, ?_⟩
  rcases h2 with h2 | ⟨g, cap, cur, rfl, hb, hh, r⟩
  · exact Or.inl h2
  · exact Or.inr ⟨g, cap, cur, rfl, hb, (hg.block g (lt_of_block hh) (fun e => hne g rfl e.symm)).trans hh, r⟩

set_option maxHeartbeats 1000000 in
theorem new_bad (n : Int) (w : World) (hn : ¬ (0 ≤ n ∧ n ≤ 60)) :
    Calls Try.prog 7 #[.int .i64 n] w fun e w' => e = .returned (.tuple #[.pointer none, .iface 54 (.int .i64 1)]) ∧ w = w' := by
  by_cases h : n < 0
  · clear hn
    go_enter Try.func7, Try.ntmps7
    go_wp2
    go_ret2
    exact ⟨rfl, rfl⟩
  · have h2 : 60 < n := by omega
    clear hn
    go_enter Try.func7, Try.ntmps7
    go_wp2
    go_ret2
    exact ⟨rfl, rfl⟩

/-- new groups of n things, one by one -/
def NewOK (w : World) (n : Nat) (e : Ending) (w' : World) : Prop := ∃ p U cu S cs, e = .returned (.tuple #[.pointer (some ⟨p, 0, none⟩), .nilIface]) ∧ UG w' w.heap.size p n U cu S cs id ∧ Below w.heap.size w w'
set_option maxHeartbeats 2000000 in
theorem new_ok (n : Nat) (w : World) (hn : n ≤ 60) :
    Calls Try.prog 7 #[.int .i64 (n : Int)] w (NewOK w n) := by
  have hz : ¬ (n : Int) < 0 := by omega
  have hz2 : ¬ (60 : Int) < n := by omega
  go_enter Try.func7, Try.ntmps7
  go_wp2
  have HR : Row (w.alloc (.cells #[.slice none 0 0, .slice none 0 0, .int .i64 (n : Int)] 56)) w.heap.size 56 [.slice none 0 0, .slice none 0 0, .int .i64 (n : Int)] := Row.new _ _ _
  have HU : Hid (UF (w.alloc (.cells #[.slice none 0 0, .slice none 0 0, .int .i64 (n : Int)] 56)) w.heap.size w.heap.size 0 none 0 none 0 id (fun _ => 1) n) :=
    ⟨HR, World.ownsRow_nil _ _ _ _, World.ownsRow_nil _ _ _ _, fun g hg => by simp [Value.ownBlock] at hg, Nat.le_refl _⟩
  have HB : Hid (Below w.heap.size w (w.alloc (.cells #[.slice none 0 0, .slice none 0 0, .int .i64 (n : Int)] 56))) := (Below.refl _ _).alloc (Nat.le_refl _) _
  clear HR
  go_loopw [17] (fun i wr => ∃ (k : Nat) (U : Option Addr) (cu : Nat) (S : Option Addr) (cs : Nat), k ≤ n ∧ i = .int .i64 (k : Int) ∧ Hid (UF wr w.heap.size w.heap.size k U cu S cs id (fun _ => 1) n) ∧ Hid (Below w.heap.size w wr)) (fun i _ => n - (intOf i).toNat)
  case atStart => exact ⟨0, none, 0, none, 0, Nat.zero_le _, rfl, HU, HB⟩
  case round =>
    clear HU HB
    obtain ⟨k, U, cu, S, cs, hk, rfl, HU, HB⟩ := hrel
    by_cases hlt : k < n
    · have hlz : (k : Int) < n := by omega
      have hc0 := HU.out.c0
      have hc1 := HU.out.c1
      have hsz : w.heap.size ≤ wr.heap.size := HB.out.size
      have hnew := fun (W : World) (z : Int) => (Row.new W 3 #[.int .i64 z]).cell
      have HNEW := Lib.hid hnew
      clear hnew
      have hpv := own_ne_row HU.out.up HU.out.row (by decide)
      have hpv' := own_ne_row HU.out.sz HU.out.row (by decide)
      have HPV := Lib.hid hpv
      have HPV' := Lib.hid hpv'
      have hrow : ∀ (W W' : World) (g : Option Nat) (xs : List Value), Row W w.heap.size 56 xs → W.grownBy W' g → g ≠ some w.heap.size → Row W' w.heap.size 56 xs := fun W W' g xs h1 h2 h3 => h1.grown h2 (fun e => h3 e.symm)
      have HROW := Lib.hid hrow
      clear hpv hpv' hrow
      go_wp2_with (first | (at_builtin; refine wp_push _ rfl (.tmp 24) (.tmp 26) 26 rfl w.heap.size 3 1 8 _ Try.underlying26 info_int rfl (by omega) U k cu _ rfl (HU.out.up.alloc _) wr.heap.size 1 [.int .i64 (k : Int)] rfl rfl (fun j u hu => (HNEW.out _ _ j).trans hu) (by intro u hu; simp at hu; subst hu; rfl) (by omega) (by omega) (by simp; omega) ?_; intro g1 c1 w4 ho4 hb4 hg4 hgr4 hat4; have hr4 := HROW.out _ _ _ _ (HU.out.row.alloc _) hgr4 HPV.out; have hx0 := hr4.cell 0; have hf0 := hr4.frozen 0; have hx1 := hr4.cell 1; have hf1 := hr4.frozen 1; have hsz4 := hb4.size; simp only [World.size_alloc] at hsz4; have hS4 := Lib.hid (ownsRow_setCell_other (own_grown_ne (HU.out.sz.alloc _) hgr4 (fun g hg e => HU.out.ne g e hg)) (a := ⟨w.heap.size, 0, none⟩) HPV'.out (.slice (some ⟨g1, 0, none⟩) (k + 1) c1)); have hn5 := HNEW.out (w4.setCell ⟨w.heap.size, 0, none⟩ (.slice (some ⟨g1, 0, none⟩) (k + 1) c1)) 1; rw [show (w4.setCell ⟨w.heap.size, 0, none⟩ (.slice (some ⟨g1, 0, none⟩) (k + 1) c1)).heap.size = w4.heap.size by simp] at hn5; have HN5 := Lib.hid hn5; clear hn5; have HR40 := Lib.hid hr4; have HR4 := Lib.hid (hr4.set_ 0 (.slice (some ⟨g1, 0, none⟩) (k + 1) c1)); have HO4 := Lib.hid ho4; have HGR4 := Lib.hid hgr4; have HAT4 := Lib.hid hat4; have HB4 := Lib.hid hb4; clear hr4 ho4 hgr4 hat4 hb4) | (at_builtin; go_must (refine wp_push _ rfl (.tmp 34) (.tmp 35) 26 rfl w.heap.size 3 1 8 _ Try.underlying26 info_int rfl (by omega) S k cs _ rfl (hS4.out.alloc _) w4.heap.size 1 [.int .i64 1] rfl rfl (fun j u hu => (HN5.out j).trans hu) (by intro u hu; simp at hu; subst hu; rfl) (by omega) (by omega) (by simp; omega) ?_); intro g2 c2 w5 ho5 hb5 hg5 hgr5 hat5; have hr5 := HROW.out _ _ _ _ (HR4.out.alloc _) hgr5 HPV'.out; have hx5 := hr5.cell 1; have hf5 := hr5.frozen 1; have HR5 := Lib.hid hr5; have HO5 := Lib.hid ho5; have HGR5 := Lib.hid hgr5; have HAT5 := Lib.hid hat5; have HB5 := Lib.hid hb5; clear hr5 ho5 hgr5 hat5 hb5))
      have hg1S : ∀ g, (Value.slice S k cs).ownBlock = some g → g ≠ g1 := fun g hg e => by
        subst e
        rcases HAT4.out with h | h
        · exact HU.out.ne g h.symm hg
        · have := (HU.out.sz.lt g hg).2
          simp only [World.size_alloc] at h; omega
      have hO1 : (w4.setCell ⟨w.heap.size, 0, none⟩ (.slice (some ⟨g1, 0, none⟩) (k + 1) c1)).ownsRow w.heap.size 3 1 (.slice (some ⟨g1, 0, none⟩) (k + 1) c1) (k + 1) (ints (nums (k + 1) id)) := by
        refine ownsRow_setCell_other (a := ⟨w.heap.size, 0, none⟩) ?_ (own_ne_row HO4.out HR40.out (by decide)) _
        have := HO4.out
        rw [nums_snoc, ints_append]; exact this
      have hO2 := own_grown_ne (hO1.alloc _) HGR5.out (fun g hg e => by
        simp only [Value.ownBlock, Option.some.injEq] at hg
        subst hg
        exact hg1S _ e rfl)
      have hO3 := ownsRow_setCell_other (a := ⟨w.heap.size, 1, none⟩) hO2 (own_ne_row hO2 HR5.out (by decide)) (.slice (some ⟨g2, 0, none⟩) (k + 1) c2)
      have hP := ownsRow_setCell_other (a := ⟨w.heap.size, 1, none⟩) HO5.out (own_ne_row HO5.out HR5.out (by decide)) (.slice (some ⟨g2, 0, none⟩) (k + 1) c2)
      have hg12 : g2 ≠ g1 := fun e => by
        rcases HAT5.out with h | h
        · exact hg1S _ h.symm e
        · have := (hO1.lt g1 rfl).2
          simp only [World.size_alloc] at h; omega
      have hRF := HR5.out.set_ 1 (.slice (some ⟨g2, 0, none⟩) (k + 1) c2)
      have hBF := (((((HB.out.alloc hsz (.cells #[.int .i64 (k : Int)] 3)).trans (HB4.out)).setCell (p := ⟨w.heap.size, 0, none⟩) (Nat.le_refl _) (.slice (some ⟨g1, 0, none⟩) (k + 1) c1)).alloc (by simp; omega) (.cells #[.int .i64 1] 3)).trans HB5.out).setCell (p := ⟨w.heap.size, 1, none⟩) (Nat.le_refl _) (.slice (some ⟨g2, 0, none⟩) (k + 1) c2)
      clear HO4 HGR4 HAT4 HB4 HN5 HR4 HR40 hO1 hO2 hS4
      go_roundw
      case rel =>
        refine ⟨k + 1, _, _, _, _, by omega, by go_num, ⟨hRF, hO3, ?_, ?_, Nat.le_refl _⟩, hBF⟩
        · rw [nums_snoc, ints_append]; exact hP
        · intro g hg e
          simp only [Value.ownBlock, Option.some.injEq] at hg e
          exact hg12 (by omega)
      case measure => simp [intOf]; omega
    · have hkn : k = n := by omega
      subst hkn
      have hlz : ¬ (k : Int) < k := by omega
      go_wp2
      go_ret2
      exact ⟨w.heap.size, U, cu, S, cs, rfl, ⟨⟨id, fun _ => 1, fun _ => 0, 0, by rw [roots_id]; exact HU.out, Rep.start _, fun _ _ => Nat.one_le_two_pow⟩, hn⟩, HB.out⟩

theorem many_ {w : World} {base p n cu cs : Nat} {U S : Option Addr} {R : Nat → Nat} (h : UG w base p n U cu S cs R) :
    Calls Try.prog 9 #[.pointer (some ⟨p, 0, none⟩)] w fun e w' => e = .returned (.int .i64 (roots n R)) ∧ w = w' := by
  have hc := h.c2
  clear h
  go_enter Try.func9, Try.ntmps9
  go_wp2
  go_ret
  exact ⟨rfl, rfl⟩
end Go.Proofs.Ytejbilcofbjpiaa
