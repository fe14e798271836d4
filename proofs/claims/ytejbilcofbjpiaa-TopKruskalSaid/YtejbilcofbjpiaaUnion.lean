/- The memory of union.Groups, and what its find answers: the one that stands for the group. Conditions: none. -/
import Derived.Test.YtejbilcofbjpiaaKeeps
import Derived.Test.YtejbilcofbjpiaaUnionPlain
import Derived.BigRegion
namespace Go.Proofs.Ytejbilcofbjpiaa
open Go.RowKit


/-- numbers by their places -/
def nums (n : Nat) (f : Nat → Nat) : List Int := (List.range n).map fun (i : Nat) => (f i : Int)
theorem nums_len (n : Nat) (f : Nat → Nat) : (nums n f).length = n := by simp [nums]
theorem nums_at {n i : Nat} (f : Nat → Nat) (h : i < n) : (ints (nums n f))[i]? = some (.int .i64 (f i : Int)) := by simp [nums, ints, h]
theorem nums_set {n : Nat} (f : Nat → Nat) (i v : Nat) : (ints (nums n f)).set i (.int .i64 (v : Int)) = ints (nums n (upd f i v)) := by
  apply List.ext_getElem
  · simp [nums, ints]
  · intro k h1 h2
    simp only [nums, ints, List.getElem_set, List.getElem_map, List.getElem_range, upd]
    split
    · next e => subst e; simp
    · next e => rw [if_neg (fun h => e h.symm)]
theorem nums_snoc (n : Nat) (f : Nat → Nat) : nums (n + 1) f = nums n f ++ [(f n : Int)] := by simp [nums, List.range_succ]

/-- the groups behind a pointer: their ways up, their sizes, and how many there are -/
structure UF (w : World) (base p n : Nat) (U : Option Addr) (cu : Nat) (S : Option Addr) (cs : Nat) (up size : Nat → Nat) (many : Int) : Prop where
  row : Row w p 56 [.slice U n cu, .slice S n cs, .int .i64 many]
  up : w.ownsRow base 3 1 (.slice U n cu) n (ints (nums n up))
  sz : w.ownsRow base 3 1 (.slice S n cs) n (ints (nums n size))
  ne : ∀ g, (Value.slice U n cu).ownBlock = some g → (Value.slice S n cs).ownBlock ≠ some g
  at_ : base ≤ p
section
variable {w w' : World} {base p n cu cs : Nat} {U S : Option Addr} {up size : Nat → Nat} {many : Int}
theorem UF.c0 (h : UF w base p n U cu S cs up size many) : w.cell? ⟨p, 0, none⟩ = some (.slice U n cu) := h.row.cell 0
theorem UF.c1 (h : UF w base p n U cu S cs up size many) : w.cell? ⟨p, 1, none⟩ = some (.slice S n cs) := h.row.cell 1
theorem UF.c2 (h : UF w base p n U cu S cs up size many) : w.cell? ⟨p, 2, none⟩ = some (.int .i64 many) := h.row.cell 2
/-- the groups' own places, where there are things -/
theorem UF.places (h : UF w base p n U cu S cs up size many) (hn : 0 < n) : ∃ gu gs, U = some ⟨gu, 0, none⟩ ∧ S = some ⟨gs, 0, none⟩ ∧ gu ≠ gs ∧ gu ≠ p ∧ gs ≠ p ∧ base ≤ gu ∧ base ≤ gs ∧ gu < w.heap.size ∧ gs < w.heap.size := by
  obtain ⟨gu, c1, h1, hb1, hl1⟩ := h.up.form hn
  obtain ⟨gs, c2, h2, hb2, hl2⟩ := h.sz.form hn
  simp only [Value.slice.injEq, true_and] at h1 h2
  obtain ⟨rfl, rfl⟩ := h1
  obtain ⟨rfl, rfl⟩ := h2
  have e1 := own_ne_row h.up h.row (by decide)
  have e2 := own_ne_row h.sz h.row (by decide)
  have e3 := h.ne gu rfl
  simp only [Value.ownBlock, ne_eq, Option.some.injEq] at e1 e2 e3
  exact ⟨gu, gs, rfl, rfl, fun e => e3 e.symm, e1, e2, hb1, hb2, hl1, hl2⟩
theorem UF.keeps {bs : List Nat} (h : UF w base p n U cu S cs up size many) (hk : Keeps bs w w') (hp : p ∉ bs) (hu : ∀ g, (Value.slice U n cu).ownBlock = some g → g ∉ bs) (hs : ∀ g, (Value.slice S n cs).ownBlock = some g → g ∉ bs) : UF w' base p n U cu S cs up size many :=
  ⟨hk.row h.row hp, hk.own h.up hu, hk.own h.sz hs, h.ne, h.at_⟩
theorem UF.setUp {gu : Nat} (h : UF w base p n (some ⟨gu, 0, none⟩) cu S cs up size many) (i v : Nat) (_ : i < n) : UF (w.setCell ⟨gu, i, none⟩ (.int .i64 (v : Int))) base p n (some ⟨gu, 0, none⟩) cu S cs (upd up i v) size many := by
  have e1 := own_ne_row h.up h.row (by decide)
  simp only [Value.ownBlock, ne_eq, Option.some.injEq] at e1
  refine ⟨h.row.far (p := ⟨gu, i, none⟩) (fun e => e1 e.symm) _, ?_, ?_, h.ne, h.at_⟩
  · rw [← nums_set]; exact (h.up.stored i _).1
  · exact ownsRow_setCell_other h.sz (h.ne gu rfl) _
theorem UF.upAt {gu : Nat} (h : UF w base p n (some ⟨gu, 0, none⟩) cu S cs up size many) {i : Nat} (hi : i < n) : w.cell? ⟨gu, i, none⟩ = some (.int .i64 (up i : Int)) := by
  rw [h.up.cellAt i (by omega), nums_at up hi]
theorem UF.upFree {gu : Nat} (h : UF w base p n (some ⟨gu, 0, none⟩) cu S cs up size many) (i : Nat) : w.frozen? ⟨gu, i, none⟩ = false := h.up.frozenAt i
theorem UF.szAt {gs : Nat} (h : UF w base p n U cu (some ⟨gs, 0, none⟩) cs up size many) {i : Nat} (hi : i < n) : w.cell? ⟨gs, i, none⟩ = some (.int .i64 (size i : Int)) := by
  rw [h.sz.cellAt i (by omega), nums_at size hi]
theorem UF.szFree {gs : Nat} (h : UF w base p n U cu (some ⟨gs, 0, none⟩) cs up size many) (i : Nat) : w.frozen? ⟨gs, i, none⟩ = false := h.sz.frozenAt i
theorem UF.drew (h : UF w base p n U cu S cs up size many) : UF w.drew base p n U cu S cs up size many := ⟨h.row, h.up, h.sz, h.ne, h.at_⟩
end

set_option maxHeartbeats 2000000 in
/-- find: the one that stands for the group; the ways become shorter -/
theorem find_ {w : World} {base p n cu cs gu K a : Nat} {S : Option Addr} {up size R rk : Nat → Nat} {many : Int} (h : UF w base p n (some ⟨gu, 0, none⟩) cu S cs up size many) (hr : Rep n up R rk K) (ha : a < n) (_hm : n ≤ 60) :
    Calls Try.prog 20 #[.pointer (some ⟨p, 0, none⟩), .int .i64 (a : Int)] w fun e w' => e = .returned (.int .i64 (R a : Int)) ∧ ∃ up', UF w' base p n (some ⟨gu, 0, none⟩) cu S cs up' size many ∧ Rep n up' R rk K ∧ Keeps [gu] w w' := by
  have H := Lib.hid h
  have HR := Lib.hid hr
  have hc0 := h.c0
  clear h hr
  go_enter Try.func20, Try.ntmps20
  go_wp2
  go_loopw [1] (fun v wr => ∃ (x : Nat) (up' : Nat → Nat), x < n ∧ v = .int .i64 (x : Int) ∧ Hid (R x = R a) ∧ Hid (UF wr base p n (some ⟨gu, 0, none⟩) cu S cs up' size many) ∧ Hid (Rep n up' R rk K) ∧ Hid (Keeps [gu] w wr)) (fun v _ => K - rk (intOf v).toNat)
  case atStart => exact ⟨a, up, ha, rfl, rfl, H.out, HR.out, Keeps.refl _ _⟩
  case round =>
    clear hc0
    obtain ⟨x, up', hx, rfl, hRx, HU, HRx, HK⟩ := hrel
    have hc0 := HU.out.c0
    have hc1 := HU.out.upAt hx
    have hxn : (x : Int) < n := by omega
    obtain ⟨y, hy⟩ : ∃ y, up' x = y := ⟨_, rfl⟩
    rw [hy] at hc1
    by_cases e : y = x
    · subst e
      have hE : Hid (R y = y) := HRx.out.fix y hx hy
      clear hy
      go_wp2
      go_ret
      exact ⟨ret_int (by rw [← hRx.out, hE.out]), up', HU.out, HRx.out, HK.out⟩
    · have hyn := HRx.out.up_lt x hx
      rw [hy] at hyn
      have hc2 := HU.out.upAt hyn
      have hyn' : (y : Int) < n := by omega
      obtain ⟨z, hz⟩ : ∃ z, up' y = z := ⟨_, rfl⟩
      rw [hz] at hc2
      have hne : ((y : Int) != x) = true := by rw [bne_iff_ne]; omega
      have hf := HU.out.upFree x
      have HU2 : Hid (UF (wr.setCell ⟨gu, x, none⟩ (.int .i64 (z : Int))).drew base p n (some ⟨gu, 0, none⟩) cu S cs (upd up' x z) size many) := (HU.out.setUp x z hx).drew
      have HR2 : Hid (Rep n (upd up' x z) R rk K) := by
        have := HRx.out.halve hx (by rw [hy]; exact e)
        rw [hy, hz] at this
        exact this
      have HK2 : Hid (Keeps [gu] w (wr.setCell ⟨gu, x, none⟩ (.int .i64 (z : Int))).drew) := (HK.out.setCell (Or.inl (by simp)) _).drew
      have HY := Lib.hid hy
      have HZ := Lib.hid hz
      have HNE := Lib.hid e
      clear hy hz e
      go_wp2
      go_region
      clear hc0 hc1 hc2 hf
      generalize (wr.setCell ⟨gu, x, none⟩ (.int .i64 (z : Int))).drew = w2 at HU2 HK2 ⊢
      have hc0 := HU2.out.c0
      have hc1 := HU2.out.upAt hx
      rw [show upd up' x z x = z from if_pos rfl] at hc1
      go_wp2
      go_roundw
      case rel =>
        refine ⟨z, upd up' x z, ?_, rfl, ?_, HU2, HR2, HK2⟩
        · have := HRx.out.up_lt y hyn
          rw [HZ.out] at this; exact this
        · show _ = _
          have e1 := HRx.out.rep_up x hx
          have e2 := HRx.out.rep_up y hyn
          rw [HY.out] at e1
          rw [HZ.out] at e2
          rw [e2, e1, hRx.out]
      case measure =>
        simp only [intOf, Int.toNat_natCast]
        have hzn : z < n := by
          have := HRx.out.up_lt y hyn
          rw [HZ.out] at this; exact this
        have h1 := HRx.out.climb x hx (by rw [HY.out]; exact HNE.out)
        rw [HY.out] at h1
        have h2 : rk y ≤ rk z := by
          by_cases e : z = y
          · rw [e]; exact Nat.le_refl _
          · have := HRx.out.climb y hyn (by rw [HZ.out]; exact e)
            rw [HZ.out] at this; omega
        have h3 := HRx.out.low z hzn
        omega
end Go.Proofs.Ytejbilcofbjpiaa
