/- core.Heap of path.far: Len and NewHeap, walked. Conditions: at most 100 things. -/
import Derived.Test.YtmcfhiddhifdcaaDoorHeapFarP
namespace Go.Proofs.YtmcfhiddhifdcaaDoor
open Go.RowKit
theorem fr_lenOf {w : World} {base p n c : Nat} {V : Option Addr} {ys : List Fr} {FV : Value} (h : frHeap w base p n V c ys FV) :
    Calls Tryd.prog 24 #[.pointer (some ⟨p, 0, none⟩)] w fun e w' => e = .returned (.int .i64 n) ∧ w = w' := by
  have hc := h.c0
  clear h
  go_enter Tryd.func24, Tryd.ntmps24
  go_wp2
  go_ret
  exact ⟨rfl, rfl⟩
theorem fr_at {w : World} {B k : Nat} {X : Option Addr} {l : List Fr} (h : Cells w B X (frRow l)) (hk : k < l.length) :
    ∃ b off, X = some ⟨b, off, none⟩ ∧ b < B ∧ w.cell? ⟨b, off + k * 3, none⟩ = some (.int .i64 l[k]!.weight) ∧ w.cell? ⟨b, off + k * 3 + 1, none⟩ = some (.int .i64 l[k]!.edges) ∧ w.cell? ⟨b, off + k * 3 + 2, none⟩ = some (.int .i64 l[k]!.node) := by
  obtain ⟨b, off, e, hb, hc⟩ := h (by rw [fr_len]; omega)
  have hg := fr_get (gget l hk)
  exact ⟨b, off, e, hb, hc _ _ hg.1, by rw [Nat.add_assoc]; exact hc _ _ hg.2.1, by rw [Nat.add_assoc]; exact hc _ _ hg.2.2⟩
theorem fr_blk {p : Nat} {V : Option Addr} {w : World} {base n c : Nat} {ys : List Fr} {FV : Value} (h : frHeap w base p n V c ys FV) : ∀ b ∈ frBl p V, base ≤ b ∧ b < w.heap.size := by
  intro b hb
  rcases List.mem_cons.1 hb with rfl | hb
  · exact ⟨h.at_, h.row.lt⟩
  · cases V with
    | none => simp at hb
    | some a =>
      simp only [List.mem_singleton] at hb
      subst hb
      exact h.own.lt a.block rfl
def frNewOK (w : World) (m : Nat) (l : List Fr) (_ : Unit) (e : Ending) (w' : World) : Prop :=
  ∃ p V c zs, e = .returned (.pointer (some ⟨p, 0, none⟩)) ∧ frHeap w' w.heap.size p m V c zs (.func (.func 23) #[] #[]) ∧ HeapOrd nearerB zs ∧ zs.Perm l ∧ Below w.heap.size w w'
set_option maxHeartbeats 2000000 in
theorem fr_new {w : World} {X : Option Addr} {m cx : Nat} {l : List Fr} (hX : Cells w w.heap.size X (frRow l)) (hl : l.length = m) (hm : m ≤ 100)
    (hf : ∀ W : World, Below w.heap.size w W → ∀ x y : Fr, Calls Tryd.prog 23 (#[x.val, y.val] ++ #[]) W fun e w' => e = .returned (.bool (nearerB x y)) ∧ Below W.heap.size W w') :
    Calls Tryd.prog 22 #[.func (.func 23) #[] #[], .slice X m cx] w (frNewOK w m l ()) := by
  have HX := Lib.hid hX
  have HL := Lib.hid hl
  have HFF := Lib.hid hf
  have HR : Row (w.alloc (.cells #[.slice none 0 0, .func (.func 23) #[] #[]] 67)) w.heap.size 67 [.slice none 0 0, .func (.func 23) #[] #[]] := Row.new _ _ _
  have HP0 : Hid (frHeap (w.alloc (.cells #[.slice none 0 0, .func (.func 23) #[] #[]] 67)) w.heap.size w.heap.size 0 none 0 [] (.func (.func 23) #[] #[])) := ⟨HR, World.ownsRow_nil _ _ _ _, Nat.le_refl _⟩
  have HB0 : Hid (Below w.heap.size w (w.alloc (.cells #[.slice none 0 0, .func (.func 23) #[] #[]] 67))) := (Below.refl _ _).alloc (Nat.le_refl _) _
  have hmz : (m : Int) ≤ 100 := by omega
  clear hX hl hf HR
  go_enter Tryd.func22, Tryd.ntmps22
  go_wp2
  go_loopw [13] (fun i wr => ∃ (k : Nat) (V : Option Addr) (c : Nat) (zs : List Fr), i = .int .i64 (k : Int) ∧ k ≤ m ∧ Hid (frHeap wr w.heap.size w.heap.size k V c zs (.func (.func 23) #[] #[])) ∧ Hid (HeapOrd nearerB zs) ∧ Hid (zs.Perm (l.take k)) ∧ Hid (Below w.heap.size w wr)) (fun i _ => m - (intOf i).toNat)
  case atStart => exact ⟨0, none, 0, [], rfl, by omega, HP0.out, HeapOrd.nil, by show List.Perm _ _; simp, HB0.out⟩
  case round =>
    clear HP0 HB0
    obtain ⟨k, V, c, zs, rfl, hk, HH, HO, HPM, HB⟩ := hrel
    by_cases hlt : k < m
    · have hlz : (k : Int) < m := by omega
      obtain ⟨b, off, rfl, hbb, hc0, hc1, hc2⟩ := fr_at HX.out (show k < l.length by rw [HL.out]; exact hlt)
      obtain ⟨ex, hex⟩ : ∃ z, z = l[k]! := ⟨_, rfl⟩
      rw [← hex] at hc0 hc1 hc2
      have HEX := Lib.hid hex
      clear hex
      obtain ⟨x0, x1, x2⟩ := ex
      simp only at hc0 hc1 hc2
      rw [← HB.out.cell hbb] at hc0 hc1 hc2
      have hb1 : Below w.heap.size w (wr.alloc (.cells #[.int .i64 x0, .int .i64 x1, .int .i64 x2] 52)) := HB.out.alloc HB.out.size _
      have hh1 : frHeap (wr.alloc (.cells #[.int .i64 x0, .int .i64 x1, .int .i64 x2] 52)) w.heap.size w.heap.size k V c zs (.func (.func 23) #[] #[]) := HH.out.keeps (bs := []) ((Keeps.refl _ _).alloc _) (by simp) (fun _ _ => by simp)
      have c1 := fr_push (w := wr.alloc (.cells #[.int .i64 x0, .int .i64 x1, .int .i64 x2] 52)) ⟨x0, x1, x2⟩ hh1 HO.out (by omega) (fun W hW x y => HFF.out W (hb1.trans (hW.below (fun b hb => (fr_blk hh1 b hb).1) (by have := hb1.size; omega))) x y)
      have C1 := Lib.hid c1
      have HB1 := Lib.hid hb1
      have HBL := Lib.hid (fun b hb => (fr_blk hh1 b hb).1)
      clear c1 hb1 hh1
      unfold Fr.val at C1
      go_wp2_with fail
      refine C1.out.mono ?_
      rintro e w2 ⟨rfl, g, c', zs', h2, ho2, hp2, hk2, _⟩
      have HH2 := Lib.hid h2
      have HO2 := Lib.hid ho2
      have HP2 := Lib.hid hp2
      have HB2 : Hid (Below w.heap.size w w2) := HB1.out.trans (hk2.below HBL.out (by have := HB1.out.size; omega))
      clear h2 ho2 hp2 hk2 C1 hc0 hc1 hc2
      go_wp2
      go_roundw
      case rel =>
        refine ⟨k + 1, _, c', zs', by go_num, by omega, HH2.out, HO2.out, ?_, HB2.out⟩
        show zs'.Perm _
        rw [take_at (gget l (show k < l.length by rw [HL.out]; exact hlt)), ← HEX.out]
        exact HP2.out.trans ((HPM.out.cons _).trans (List.perm_append_singleton _ _).symm)
      case measure => simp [intOf]; omega
    · have hlz : ¬ (k : Int) < m := by omega
      have hkm : k = m := by omega
      subst hkm
      go_wp2
      go_ret
      exact ⟨_, V, c, zs, rfl, HH.out, HO.out, by have := HPM.out; rw [List.take_of_length_le (by rw [HL.out]; omega)] at this; exact this, HB.out⟩
end Go.Proofs.YtmcfhiddhifdcaaDoor
