/- What the document's Forest answers: the edges whose ends no lighter ones join, rising. Conditions: the graph is one that may be. -/
import Derived.Test.YtpaoiaogcckibaaDoorPrimP
import Derived.Test.YtpaoiaogcckibaaDoorSpanCheck
import Derived.Test.YtpaoiaogcckibaaDoorLighter
import Derived.Test.YtpaoiaogcckibaaDoorBRow
import Derived.Deep.DeepCutAuto
import Derived.Test.YtpaoiaogcckibaaDoorBoruvkaP
import Derived.Test.YtpaoiaogcckibaaDoorKruskal
import Derived.Deep.RegionHeld3
namespace Go.Proofs.YtpaoiaogcckibaaDoor
def put2 (H : Nat → Bool) (a b : Nat) : Nat → Bool := fun i => if i = b then true else (fun i => if i = a then true else H i) i
def sweep (lt : Nat → Bool) : Nat → List Edge → (Nat → Bool) → (Nat → Bool)
  | _, [], H => H
  | k, e :: l, H => sweep lt (k + 1) l (if lt k = true ∧ (H e.a.toNat = true ∨ H e.b.toNat = true) then put2 H e.a.toNat e.b.toNat else H)
def sweeps (lt : Nat → Bool) (l : List Edge) : Nat → (Nat → Bool) → (Nat → Bool)
  | 0, H => H
  | n + 1, H => sweep lt 0 l (sweeps lt l n H)
def joinB (N : Nat) (l : List Edge) (a b i : Nat) : Bool := sweeps (fun k => ltB l k i) l N (fun x => if x = a then true else false) b
theorem put2_iff {H : Nat → Bool} {a b x : Nat} : put2 H a b x = true ↔ x = a ∨ x = b ∨ H x = true := by
  unfold put2
  by_cases h1 : x = b
  · simp [h1]
  · by_cases h2 : x = a <;> simp [h1, h2]
def LeH (H H' : Nat → Bool) : Prop := ∀ x, H x = true → H' x = true
theorem sweep_le (lt : Nat → Bool) : ∀ (l : List Edge) (k : Nat) (H : Nat → Bool), LeH H (sweep lt k l H) := by
  intro l
  induction l with
  | nil => intro k H x h; exact h
  | cons e l ih =>
    intro k H x h
    simp only [sweep]
    refine ih _ _ x ?_
    split
    · exact put2_iff.2 (Or.inr (Or.inr h))
    · exact h
/-- what a sweep leaves as it was is closed -/
theorem sweep_closed (lt : Nat → Bool) : ∀ (l : List Edge) (k : Nat) (H : Nat → Bool), LeH (sweep lt k l H) H → ∀ j e, l[j]? = some e → lt (k + j) = true → (H e.a.toNat = true ∨ H e.b.toNat = true) → H e.a.toNat = true ∧ H e.b.toNat = true := by
  intro l
  induction l with
  | nil => intro k H _ j e he; simp at he
  | cons d l ih =>
    intro k H hs j e he hlt hor
    simp only [sweep] at hs
    cases j with
    | zero =>
      simp at he
      subst he
      rw [if_pos ⟨hlt, hor⟩] at hs
      exact ⟨hs _ (sweep_le _ _ _ _ _ (put2_iff.2 (Or.inl rfl))), hs _ (sweep_le _ _ _ _ _ (put2_iff.2 (Or.inr (Or.inl rfl))))⟩
    | succ j =>
      simp at he
      have hst : ∀ x, (if lt k = true ∧ (H d.a.toNat = true ∨ H d.b.toNat = true) then put2 H d.a.toNat d.b.toNat else H) x = true ↔ H x = true := fun x =>
        ⟨fun h => hs x (sweep_le _ _ _ _ _ h), fun h => by
          split
          · exact put2_iff.2 (Or.inr (Or.inr h))
          · exact h⟩
      have hEq : (if lt k = true ∧ (H d.a.toNat = true ∨ H d.b.toNat = true) then put2 H d.a.toNat d.b.toNat else H) = H := by
        funext x
        exact Bool.eq_iff_iff.2 (hst x)
      rw [hEq] at hs
      exact ih (k + 1) H hs j e he (by rw [show k + 1 + j = k + (j + 1) by omega]; exact hlt) hor
/-- what a sweep adds is joined -/
theorem sweep_sound (lt : Nat → Bool) (P : Nat → Prop) : ∀ (l : List Edge) (k : Nat) (H : Nat → Bool), (∀ x, H x = true → P x) → (∀ j e, l[j]? = some e → lt (k + j) = true → (P e.a.toNat ↔ P e.b.toNat)) → ∀ x, sweep lt k l H x = true → P x := by
  intro l
  induction l with
  | nil => intro k H h _ x hx; exact h x hx
  | cons d l ih =>
    intro k H h hP x hx
    simp only [sweep] at hx
    refine ih (k + 1) _ ?_ (fun j e he hlt => hP (j + 1) e (by simpa using he) (by rw [show k + (j + 1) = k + 1 + j by omega]; exact hlt)) x hx
    intro y hy
    split at hy
    · next hc =>
      have h1 := hP 0 d (by simp) hc.1
      have h2 : P d.a.toNat ∧ P d.b.toNat := by
        rcases hc.2 with h3 | h3
        · exact ⟨h _ h3, h1.1 (h _ h3)⟩
        · exact ⟨h1.2 (h _ h3), h _ h3⟩
      rcases put2_iff.1 hy with rfl | rfl | h3
      · exact h2.1
      · exact h2.2
      · exact h y h3
    · exact h y hy
def cntSw (N : Nat) (H : Nat → Bool) : Nat := (List.range N).countP H
theorem cntSw_le (N : Nat) (H : Nat → Bool) : cntSw N H ≤ N := by
  unfold cntSw
  exact Nat.le_trans List.countP_le_length (by simp)
theorem cntSw_mono {H H' : Nat → Bool} (h : LeH H H') : ∀ N, cntSw N H ≤ cntSw N H' := by
  intro N
  unfold cntSw
  exact List.countP_mono_left fun x _ hx => h x hx
theorem cntSw_more {H H' : Nat → Bool} (h : LeH H H') : ∀ (N : Nat) {x : Nat}, x < N → H' x = true → H x = false → cntSw N H < cntSw N H' := by
  intro N
  induction N with
  | zero => intro x hx; omega
  | succ N ih =>
    intro x hx h1 h2
    have e1 : ∀ H : Nat → Bool, cntSw (N + 1) H = cntSw N H + (if H N = true then 1 else 0) := fun H => by
      unfold cntSw
      rw [List.range_succ, List.countP_append]
      simp [List.countP_cons]
    rw [e1, e1]
    by_cases hxN : x = N
    · subst hxN
      have := cntSw_mono h x
      rw [h1, h2]; simp; omega
    · have h3 := ih (show x < N by omega) h1 h2
      by_cases h4 : H N = true
      · rw [if_pos h4, if_pos (h N h4)]; omega
      · rw [if_neg h4]; omega
section
variable {N : Nat} {l : List Edge} {lt : Nat → Bool} {a : Nat}
theorem sweeps_in (hl : ∀ e ∈ l, e.a.toNat < N ∧ e.b.toNat < N) {H : Nat → Bool} (h0 : ∀ x, H x = true → x < N) : ∀ n x, sweeps lt l n H x = true → x < N := by
  intro n
  induction n with
  | zero => exact h0
  | succ n ih =>
    intro x hx
    exact sweep_sound lt (fun x => x < N) l 0 _ ih (fun j e he _ => by have := hl e (List.mem_of_getElem? he); constructor <;> intro _ <;> omega) x hx
theorem sweeps_stable (hl : ∀ e ∈ l, e.a.toNat < N ∧ e.b.toNat < N) {H : Nat → Bool} (h0 : ∀ x, H x = true → x < N) (ha : H a = true) : ∀ n, LeH (sweep lt 0 l (sweeps lt l n H)) (sweeps lt l n H) ∨ n + 1 ≤ cntSw N (sweeps lt l n H) := by
  intro n
  induction n with
  | zero =>
    right
    have h1 := cntSw_more (H := fun _ => false) (H' := H) (fun x h => by cases h) N (h0 a ha) ha rfl
    show 0 + 1 ≤ cntSw N H
    omega
  | succ n ih =>
    rcases ih with h | h
    · left
      have e : sweeps lt l (n + 1) H = sweeps lt l n H := by
        funext x
        exact Bool.eq_iff_iff.2 ⟨fun hx => h x hx, fun hx => sweep_le lt l 0 _ x hx⟩
      rw [e]; exact h
    · by_cases hs : LeH (sweep lt 0 l (sweeps lt l (n + 1) H)) (sweeps lt l (n + 1) H)
      · exact Or.inl hs
      · right
        have hs2 : ¬ LeH (sweep lt 0 l (sweeps lt l n H)) (sweeps lt l n H) := fun hc => by
          have e : sweeps lt l (n + 1) H = sweeps lt l n H := by
            funext x
            exact Bool.eq_iff_iff.2 ⟨fun hx => hc x hx, fun hx => sweep_le lt l 0 _ x hx⟩
          rw [e] at hs; exact hs hc
        obtain ⟨x, hx⟩ := Classical.not_forall.1 hs2
        have hx' := Classical.not_imp.1 hx
        have h3 := cntSw_more (sweep_le lt l 0 (sweeps lt l n H)) N (sweeps_in hl h0 (n + 1) x hx'.1) hx'.1 (by simpa using hx'.2)
        show n + 1 + 1 ≤ cntSw N (sweep lt 0 l (sweeps lt l n H))
        omega
theorem sweeps_closed (hl : ∀ e ∈ l, e.a.toNat < N ∧ e.b.toNat < N) {H : Nat → Bool} (h0 : ∀ x, H x = true → x < N) (ha : H a = true) {j : Nat} {e : Edge} (he : l[j]? = some e) (hlt : lt j = true) :
    sweeps lt l N H e.a.toNat = true ↔ sweeps lt l N H e.b.toNat = true := by
  have hs : LeH (sweep lt 0 l (sweeps lt l N H)) (sweeps lt l N H) := by
    rcases sweeps_stable hl h0 ha N with h | h
    · exact h
    · have := cntSw_le N (sweeps lt l N H); omega
  have h1 := sweep_closed lt l 0 _ hs j e he (by rw [Nat.zero_add]; exact hlt)
  exact ⟨fun h => (h1 (Or.inl h)).2, fun h => (h1 (Or.inr h)).1⟩
theorem sweeps_start {H : Nat → Bool} (ha : H a = true) : ∀ n, sweeps lt l n H a = true := by
  intro n
  induction n with
  | zero => exact ha
  | succ n ih => exact sweep_le lt l 0 _ a ih
theorem sweeps_sound {H : Nat → Bool} (P : Nat → Prop) (h0 : ∀ x, H x = true → P x) (hP : ∀ j e, l[j]? = some e → lt j = true → (P e.a.toNat ↔ P e.b.toNat)) : ∀ n x, sweeps lt l n H x = true → P x := by
  intro n
  induction n with
  | zero => exact h0
  | succ n ih => intro x hx; exact sweep_sound lt P l 0 _ ih (fun j e he hl => hP j e he (by rw [Nat.zero_add] at hl; exact hl)) x hx
end
/-- the document's joined: by the edges that are lighter than one -/
theorem joinB_iff {N : Nat} {l : List Edge} (hg : graphErr N l = 0) {i : Nat} (hi : i < l.length) : joinB N l (eOf l (i : Int)).1.toNat (eOf l (i : Int)).2.toNat i = true ↔ Tied N (eOf l) ((kord l).take ((kord l).idxOf (i : Int))) (i : Int) := by
  obtain ⟨_, _, hed⟩ := graphErr_ok hg
  have hl : ∀ e ∈ l, e.a.toNat < N ∧ e.b.toNat < N := fun e he => by have := hed e he; omega
  have hei := hl _ (eAt_mem (l := l) (i := (i : Int)) (by omega) (by omega))
  have hin : ∀ j : Nat, j < l.length → (ltB l j i = true ↔ (j : Int) ∈ (kord l).take ((kord l).idxOf (i : Int))) := fun j hj => by
    obtain ⟨p, hp⟩ := List.getElem?_of_mem ((kord_ord l).full (j : Int) (by omega) (by omega))
    obtain ⟨q, hq⟩ := List.getElem?_of_mem ((kord_ord l).full (i : Int) (by omega) (by omega))
    obtain ⟨hpl, hpe⟩ := List.getElem?_eq_some_iff.1 hp
    obtain ⟨hql, hqe⟩ := List.getElem?_eq_some_iff.1 hq
    have hso := List.pairwise_iff_getElem.1 (kord_sorted l)
    rw [idx_of (kord_ord l).2.2 hq]
    constructor
    · intro h
      have h1 : Lt2 l (j : Int) (i : Int) := by
        unfold ltB at h
        unfold Lt2
        exact of_decide_eq_true h
      have hpq : p < q := by
        rcases Nat.lt_trichotomy p q with h2 | h2 | h2
        · exact h2
        · subst h2
          have h3 : (j : Int) = i := hpe.symm.trans hqe
          rw [h3] at h1
          unfold Lt2 at h1; omega
        · have h3 := hso q p hql hpl h2
          rw [hqe, hpe] at h3
          unfold Lt2 at h1 h3; omega
      exact List.mem_of_getElem? (show ((kord l).take q)[p]? = some (j : Int) by rw [List.getElem?_take, if_pos hpq]; exact hp)
    · intro h
      obtain ⟨r, hr⟩ := List.getElem?_of_mem h
      rw [List.getElem?_take] at hr
      split at hr
      · next hrq =>
        obtain ⟨hrl, hre⟩ := List.getElem?_eq_some_iff.1 hr
        have h3 := hso r q hrl hql hrq
        rw [hre, hqe] at h3
        exact decide_eq_true h3
      · cases hr
  unfold joinB Tied
  constructor
  · intro h f hf
    have := sweeps_sound (lt := fun k => ltB l k i) (l := l) (fun x => f (eOf l (i : Int)).1.toNat = f x) (H := fun x => if x = (eOf l (i : Int)).1.toNat then true else false) (fun x hx => by
      split at hx
      · next e => rw [e]
      · cases hx) (fun j e he hlt => by
        have hjl : j < l.length := (List.getElem?_eq_some_iff.1 he).1
        have h1 := (hin j hjl).1 hlt
        have h2 := hf e.a.toNat e.b.toNat (hl e (List.mem_of_getElem? he)).1 (hl e (List.mem_of_getElem? he)).2 (by
          have h3 := hed e (List.mem_of_getElem? he)
          refine List.mem_map.2 ⟨(j : Int), h1, ?_⟩
          unfold eOf
          rw [eAt_of he]
          simp only [Prod.mk.injEq]; omega)
        rw [h2]) N _ h
    exact this
  · intro h
    have h1 := h (fun x => if sweeps (fun k => ltB l k i) l N (fun x => if x = (eOf l (i : Int)).1.toNat then true else false) x = true then 1 else 0) (fun a b ha hb hm => by
      obtain ⟨j, hj, hq⟩ := List.mem_map.1 hm
      have hjr : 0 ≤ j ∧ j < l.length := (kord_ord l).2.1 j (List.mem_of_mem_take hj)
      obtain ⟨j, rfl⟩ : ∃ k : Nat, j = k := ⟨j.toNat, by omega⟩
      have hjl : j < l.length := by omega
      have hlt := (hin j hjl).2 hj
      have he := List.getElem?_eq_getElem hjl
      unfold eOf at hq
      rw [eAt_of he] at hq
      simp only [Prod.mk.injEq] at hq
      have h2 := sweeps_closed (lt := fun k => ltB l k i) hl (H := fun x => if x = (eOf l (i : Int)).1.toNat then true else false) (a := (eOf l (i : Int)).1.toNat) (fun x hx => by
        split at hx
        · next e => rw [e]; exact hei.1
        · cases hx) (by simp) he hlt
      rw [show (l[j]).a.toNat = a by omega, show (l[j]).b.toNat = b by omega] at h2
      simp only [h2])
    simp only [sweeps_start (lt := fun k => ltB l k i) (l := l) (H := fun x => if x = (eOf l (i : Int)).1.toNat then true else false) (a := (eOf l (i : Int)).1.toNat) (by simp) N, if_true] at h1
    by_cases hc : sweeps (fun k => ltB l k i) l N (fun x => if x = (eOf l (i : Int)).1.toNat then true else false) (eOf l (i : Int)).2.toNat = true
    · exact hc
    · rw [if_neg hc] at h1; cases h1
end Go.Proofs.YtpaoiaogcckibaaDoor
namespace Go.Proofs.YtpaoiaogcckibaaDoor
open Go.RowKit
set_option maxHeartbeats 8000000 in
set_option maxRecDepth 100000 in
theorem refJoined (N : Nat) (A : Option Addr) (n c : Nat) (a b i : Nat) (l : List Edge) (w : World) (hA : Cells w w.heap.size A (edges l)) (hn : l.length = n) (hg : graphErr N l = 0) (ha : a < N) (hb : b < N) (hi : i < n) :
    Calls Tryd.prog 98 #[graphV N A n c, .int .i64 (a : Int), .int .i64 (b : Int), .int .i64 (i : Int)] w fun e w' => e = .returned (.bool (joinB N l a b i)) ∧ Below w.heap.size w w' := by
  have HN := Lib.hid hn
  have HA := Lib.hid hA
  obtain ⟨⟨_, hN1⟩, hl40, hed⟩ := graphErr_ok hg
  have hN : N ≤ 16 := by omega
  have hn40 : n ≤ 40 := by omega
  have HED := Lib.hid hed
  have HB0 : Hid (Below w.heap.size w (w.alloc (.cells #[.int .i64 (N : Int), .slice A n c] 40))) := (Below.refl _ _).alloc (Nat.le_refl _) _
  have HR0 : Hid (Row (w.alloc (.cells #[.int .i64 (N : Int), .slice A n c] 40)) w.heap.size 40 [.int .i64 (N : Int), .slice A n c]) := Row.new _ _ _
  have HS0 : Hid ((w.alloc (.cells #[.int .i64 (N : Int), .slice A n c] 40)).heap.size = w.heap.size + 1) := by show _ = _; simp
  have hmk := make_row 103 4 (.bool false) 1 Tryd.underlying103 info_bool rfl N (by omega) (by omega)
  have haz : (a : Int) < N := by omega
  have ha0 : (0 : Int) ≤ a := by omega
  have hbz : (b : Int) < N := by omega
  have hb0 : (0 : Int) ≤ b := by omega
  clear hA hn hN1 hl40 hed hg
  unfold graphV
  go_enter Tryd.func98, Tryd.ntmps98
  go_upto_region 1 with fail
  generalize w.alloc (.cells #[.int .i64 (N : Int), .slice A n c] 40) = w1 at HB0 HR0 HS0 ⊢
  have hq0 := HR0.out.cell 0
  have hq1 := HR0.out.cell 1
  go_upto_region 2 with fail
  have HT : Row (w1.alloc (.cells (madeCells #[.bool false] N) 4)) w1.heap.size 4 (bRow N fun _ => false) := by rw [← bRow_none]; exact Row.made _ _ _ _
  have HR1 : Hid (Row (w1.alloc (.cells (madeCells #[.bool false] N) 4)) w.heap.size 40 [.int .i64 (N : Int), .slice A n c]) := HR0.out.alloc _
  have HB1 : Hid (Below w.heap.size w (w1.alloc (.cells (madeCells #[.bool false] N) 4))) := HB0.out.alloc HB0.out.size _
  rw [HS0.out] at HT ⊢
  generalize w1.alloc (.cells (madeCells #[.bool false] N) 4) = w2 at HT HR1 HB1 ⊢
  clear hq0 hq1 hmk HB0 HR0 HS0
  obtain ⟨T, hT⟩ : ∃ T, T = w.heap.size + 1 := ⟨_, rfl⟩
  rw [← hT] at HT ⊢
  have HTG : Hid (w.heap.size < T) := by show _ < _; omega
  clear hT
  have hct := HT.cell a
  rw [bRow_at ha] at hct
  have hft := HT.frozen a
  have HT2 : Hid (Row (w2.setCell ⟨T, a, none⟩ (.bool true)) T 4 (bRow N fun x => if x = a then true else false)) := by
    have := HT.set_ a (.bool true)
    rw [bRow_set] at this; exact this
  have HR2 : Hid (Row (w2.setCell ⟨T, a, none⟩ (.bool true)) w.heap.size 40 [.int .i64 (N : Int), .slice A n c]) := HR1.out.far (by have := HTG.out; show w.heap.size ≠ T; omega) _
  have HB2 : Hid (Below w.heap.size w (w2.setCell ⟨T, a, none⟩ (.bool true))) := HB1.out.setCell (by have := HTG.out; show w.heap.size ≤ T; omega) _
  clear HT HR1 HB1
  go_wp2
  clear hct hft
  generalize w2.setCell ⟨T, a, none⟩ (.bool true) = w3 at HT2 HR2 HB2 ⊢
  have HJ : Hid (∀ f : Nat → Bool, f = sweeps (fun k => ltB l k i) l N (fun x => if x = a then true else false) → f b = joinB N l a b i) := fun f hf => by rw [hf]; rfl
  go_loopw [10] (fun kv wr => ∃ k : Nat, kv = .int .i64 (k : Int) ∧ k ≤ N ∧ Hid (Row wr T 4 (bRow N (sweeps (fun k => ltB l k i) l k (fun x => if x = a then true else false)))) ∧ Hid (Row wr w.heap.size 40 [.int .i64 (N : Int), .slice A n c]) ∧ Hid (Below w.heap.size w wr)) (fun kv _ => N - (intOf kv).toNat)
  case atStart => exact ⟨0, rfl, by omega, HT2.out, HR2.out, HB2.out⟩
  case round =>
    clear HT2 HR2 HB2
    obtain ⟨k, rfl, hk, HT, HR, HB⟩ := hrel
    have hq0 := HR.out.cell 0
    by_cases hkN : k < N
    · have hkz : (k : Int) < N := by omega
      have HSW : Hid (∀ f : Nat → Bool, f = sweep (fun k => ltB l k i) 0 l (sweeps (fun k => ltB l k i) l k (fun x => if x = a then true else false)) → f = sweeps (fun k => ltB l k i) l (k + 1) (fun x => if x = a then true else false)) := fun f hf => hf
      generalize wr = wq at HT HR HB hq0 ⊢
      generalize sweeps (fun k => ltB l k i) l k (fun x => if x = a then true else false) = H0 at HT HSW
      go_wp2
      go_loopw [11] (fun jv wr => ∃ (j : Nat) (f : Nat → Bool), jv = .int .i64 (j : Int) ∧ j ≤ n ∧ Hid (sweep (fun k => ltB l k i) j (l.drop j) f = sweep (fun k => ltB l k i) 0 l H0) ∧ Hid (Row wr T 4 (bRow N f)) ∧ Hid (Row wr w.heap.size 40 [.int .i64 (N : Int), .slice A n c]) ∧ Hid (Below w.heap.size w wr)) (fun jv _ => n - (intOf jv).toNat)
      case atStart => exact ⟨0, H0, rfl, by omega, rfl, HT.out, HR.out, HB.out⟩
      case round =>
        clear HT HR HB hq0
        obtain ⟨j, f, rfl, hj, HI, HT, HR, HB⟩ := hrel
        have hq0 := HR.out.cell 0
        have hq1 := HR.out.cell 1
        by_cases hjn : j < n
        · have hjz : (j : Int) < n := by omega
          have hj0 : (0 : Int) ≤ j := by omega
          obtain ⟨eb, off, ea, ee, et, rfl, hbb, hx, hc0, hc1, hc2⟩ := edges_at HA.out (show j < l.length by rw [HN.out]; exact hjn)
          obtain ⟨⟨e1, e2⟩, ⟨e3, e4⟩, _⟩ := HED.out _ (List.mem_of_getElem? hx)
          simp only at e1 e2 e3 e4
          obtain ⟨ea, rfl⟩ : ∃ k : Nat, ea = k := ⟨ea.toNat, by omega⟩
          obtain ⟨ee, rfl⟩ : ∃ k : Nat, ee = k := ⟨ee.toNat, by omega⟩
          have heaN : ea < N := by omega
          have heeN : ee < N := by omega
          have heaz : (ea : Int) < N := by omega
          have heez : (ee : Int) < N := by omega
          have HI2 : Hid (sweep (fun k => ltB l k i) (j + 1) (l.drop (j + 1)) (if ltB l j i = true ∧ (f ea = true ∨ f ee = true) then put2 f ea ee else f) = sweep (fun k => ltB l k i) 0 l H0) := by
            have h1 := HI.out
            rw [drop_at hx] at h1
            exact h1
          have c1 := lighter_ (N : Int) (some ⟨eb, off, none⟩) n c j i l wr ((HA.out.below HB.out (Nat.le_refl _)).more HB.out.size) HN.out hjn hi (by omega)
          unfold graphV at c1
          have C1 := Lib.hid c1
          have HC := Lib.hid (And.intro hbb (And.intro hc0 hc1))
          clear HI hx hc0 hc1 hc2 hbb c1
          go_upto_region 9 with fail
          go_cut [56] from 31 to 56 (fun v wx => v = .bool (decide (ltB l j i = true ∧ (f ea = true ∨ f ee = true))) ∧ Hid (Row wx T 4 (bRow N f)) ∧ Hid (Row wx w.heap.size 40 [.int .i64 (N : Int), .slice (some ⟨eb, off, none⟩) n c]) ∧ Hid (Below w.heap.size w wx))
          case first =>
            go_wp2_with fail
            refine C1.out.mono ?_
            rintro e w5 ⟨rfl, hb5⟩
            have HB5 : Hid (Below w.heap.size w w5) := HB.out.trans (hb5.mono HB.out.size)
            have HT5 := Lib.hid (HT.out.step hb5)
            have HR5 := Lib.hid (HR.out.step hb5)
            clear HB HT HR hb5 hq0 hq1 C1
            have hq1 := HR5.out.cell 1
            have hc0 := HC.out.2.1
            have hc1 := HC.out.2.2
            rw [← HB5.out.cell HC.out.1] at hc0 hc1
            have hta := HT5.out.cell ea
            rw [bRow_at heaN] at hta
            have hte := HT5.out.cell ee
            rw [bRow_at heeN] at hte
            obtain ⟨p, hp⟩ : ∃ p, p = ltB l j i := ⟨_, rfl⟩
            obtain ⟨p1, hp1⟩ : ∃ p, p = f ea := ⟨_, rfl⟩
            obtain ⟨p2, hp2⟩ : ∃ p, p = f ee := ⟨_, rfl⟩
            rw [← hp1] at hta
            rw [← hp2] at hte
            rw [← hp]
            have HP := Lib.hid (And.intro hp (And.intro hp1 hp2))
            clear hp hp1 hp2
            cases p with
            | false =>
              go_wp2
              go_meet
              exact ⟨by rw [← HP.out.1, ← HP.out.2.1, ← HP.out.2.2]; simp, HT5.out, HR5.out, HB5.out⟩
            | true =>
              cases p1 with
              | true =>
                go_wp2
                go_meet
                exact ⟨by rw [← HP.out.1, ← HP.out.2.1, ← HP.out.2.2]; simp, HT5.out, HR5.out, HB5.out⟩
              | false =>
                go_wp2
                go_meet
                exact ⟨by rw [← HP.out.1, ← HP.out.2.1, ← HP.out.2.2]; simp, HT5.out, HR5.out, HB5.out⟩
          case rest =>
          obtain ⟨rfl, HT5, HR5, HB5⟩ := hcut
          clear HB HT HR hq0 hq1 C1
          have hq1 := HR5.out.cell 1
          have hc0 := HC.out.2.1
          have hc1 := HC.out.2.2
          rw [← HB5.out.cell HC.out.1] at hc0 hc1
          by_cases hcond : ltB l j i = true ∧ (f ea = true ∨ f ee = true)
          · have hdec : decide (ltB l j i = true ∧ (f ea = true ∨ f ee = true)) = true := decide_eq_true hcond
            have HI3 : Hid (sweep (fun k => ltB l k i) (j + 1) (l.drop (j + 1)) (put2 f ea ee) = sweep (fun k => ltB l k i) 0 l H0) := by
              have h := HI2.out
              rw [if_pos hcond] at h; exact h
            have hta := HT5.out.cell ea
            rw [bRow_at heaN] at hta
            have hft := HT5.out.frozen ea
            have HT6 : Hid (Row (wc.setCell ⟨T, ea, none⟩ (.bool true)) T 4 (bRow N fun x => if x = ea then true else f x)) := by
              have := HT5.out.set_ ea (.bool true)
              rw [bRow_set] at this; exact this
            have HR6 : Hid (Row (wc.setCell ⟨T, ea, none⟩ (.bool true)) w.heap.size 40 [.int .i64 (N : Int), .slice (some ⟨eb, off, none⟩) n c]) := HR5.out.far (by have := HTG.out; show w.heap.size ≠ T; omega) _
            have HB6 : Hid (Below w.heap.size w (wc.setCell ⟨T, ea, none⟩ (.bool true))) := HB5.out.setCell (by have := HTG.out; show w.heap.size ≤ T; omega) _
            clear hcond HI2
            rw [hdec]
            go_upto_region 11 with fail
            generalize wc.setCell ⟨T, ea, none⟩ (.bool true) = w6 at HT6 HR6 HB6 ⊢
            clear hq1 hc0 hc1 hta hft HT5 HR5 HB5 hdec
            have hq1 := HR6.out.cell 1
            have hc0 := HC.out.2.1
            have hc1 := HC.out.2.2
            rw [← HB6.out.cell HC.out.1] at hc0 hc1
            have hta := HT6.out.cell ee
            rw [bRow_at heeN] at hta
            have hft := HT6.out.frozen ee
            have HT7 : Hid (Row (w6.setCell ⟨T, ee, none⟩ (.bool true)) T 4 (bRow N (put2 f ea ee))) := by
              have := HT6.out.set_ ee (.bool true)
              rw [bRow_set] at this; exact this
            have HR7 : Hid (Row (w6.setCell ⟨T, ee, none⟩ (.bool true)) w.heap.size 40 [.int .i64 (N : Int), .slice (some ⟨eb, off, none⟩) n c]) := HR6.out.far (by have := HTG.out; show w.heap.size ≠ T; omega) _
            have HB7 : Hid (Below w.heap.size w (w6.setCell ⟨T, ee, none⟩ (.bool true))) := HB6.out.setCell (by have := HTG.out; show w.heap.size ≤ T; omega) _
            go_wp2
            go_roundw
            case rel => exact ⟨j + 1, put2 f ea ee, by go_num, by omega, HI3.out, HT7.out, HR7.out, HB7.out⟩
            case measure => simp [intOf]; omega
          · have hdec : decide (ltB l j i = true ∧ (f ea = true ∨ f ee = true)) = false := decide_eq_false hcond
            have HI3 : Hid (sweep (fun k => ltB l k i) (j + 1) (l.drop (j + 1)) f = sweep (fun k => ltB l k i) 0 l H0) := by
              have h := HI2.out
              rw [if_neg hcond] at h; exact h
            clear hcond HI2
            rw [hdec]
            go_wp2
            go_roundw
            case rel => exact ⟨j + 1, f, by go_num, by omega, HI3.out, HT5.out, HR5.out, HB5.out⟩
            case measure => simp [intOf]; omega
        · have hjz : ¬ (j : Int) < n := by omega
          have HF : Hid (f = sweep (fun k => ltB l k i) 0 l H0) := by
            have h := HI.out
            rw [drop_end (by rw [HN.out]; omega)] at h
            exact h
          go_wp2
          go_roundw
          case rel => exact ⟨k + 1, by go_num, by omega, by show Row _ _ _ _; rw [← HSW.out f HF.out]; exact HT.out, HR.out, HB.out⟩
          case measure => simp [intOf]; omega
    · have hkz : ¬ (k : Int) < N := by omega
      obtain rfl : k = N := by omega
      have htb := HT.out.cell b
      rw [bRow_at hb, HJ.out _ rfl] at htb
      clear HJ
      go_wp2
      go_ret
      exact ⟨rfl, HB.out⟩
end Go.Proofs.YtpaoiaogcckibaaDoor
namespace Go.Proofs.YtpaoiaogcckibaaDoor
open Go.RowKit
theorem forest_is (N : Nat) (l : List Edge) : (upto l.length).filter (inF N l) = forest N l := by
  refine rising_eq ((upto_rising _).filter _) (forest_rising N l) fun i => ?_
  rw [List.mem_filter, mem_upto, mem_forest]
theorem inF_join {N : Nat} {l : List Edge} (hg : graphErr N l = 0) {k ea ee : Nat} {et : Int} (hx : l[k]? = some ⟨(ea : Int), (ee : Int), et⟩) : inF N l (k : Int) = !joinB N l ea ee k := by
  have hk : k < l.length := (List.getElem?_eq_some_iff.1 hx).1
  have h1 := joinB_iff hg hk
  have h2 : eOf l (k : Int) = ((ea : Int), (ee : Int)) := by unfold eOf; rw [eAt_of hx]
  rw [h2] at h1
  simp only [Int.toNat_natCast] at h1
  have h3 := inF_iff (N := N) (l := l) (i := (k : Int))
  rw [← h1] at h3
  cases h4 : joinB N l ea ee k with
  | true =>
    rw [h4] at h3
    cases h5 : inF N l (k : Int) with
    | true => exact absurd rfl (h3.1 h5)
    | false => rfl
  | false =>
    rw [h4] at h3
    exact h3.2 (by simp)
theorem own_still {B : Nat} {e : TypeId} {k : Nat} {v : Value} {n : Nat} {xs : List Value} {w w' : World} (h : w.ownsRow B e k v n xs) (hb : Below w.heap.size w w') : w'.ownsRow B e k v n xs :=
  h.kept (row := none) ⟨hb.os, hb.tape, hb.output, hb.size, fun j hj _ => hb.block j hj⟩ (by cases hv : v.ownBlock <;> simp)
def KeptOK (w : World) (L : List Int) (e : Ending) (w' : World) : Prop :=
  ∃ (V : Option Addr) (m c' : Nat), e = .returned (.slice V m c') ∧ L.length = m ∧ w'.ownsRow w.heap.size 3 1 (.slice V m c') m (ints L) ∧ Below w.heap.size w w'
set_option maxHeartbeats 8000000 in
set_option maxRecDepth 100000 in
theorem refForest (N : Nat) (A : Option Addr) (n c : Nat) (l : List Edge) (w : World) (hA : Cells w w.heap.size A (edges l)) (hn : l.length = n) (hg : graphErr N l = 0) :
    Calls Tryd.prog 62 #[graphV N A n c] w (KeptOK w (forest N l)) := by
  have HN := Lib.hid hn
  have HA := Lib.hid hA
  have HG := Lib.hid hg
  obtain ⟨⟨_, hN1⟩, hl40, hed⟩ := graphErr_ok hg
  have hN : N ≤ 16 := by omega
  have hn40 : n ≤ 40 := by omega
  have HED := Lib.hid hed
  have HFI : Hid ((upto n).filter (inF N l) = forest N l) := by show _ = _; rw [← hn]; exact forest_is N l
  have HB0 : Hid (Below w.heap.size w (w.alloc (.cells #[.int .i64 (N : Int), .slice A n c] 40))) := (Below.refl _ _).alloc (Nat.le_refl _) _
  have HR0 : Hid (Row (w.alloc (.cells #[.int .i64 (N : Int), .slice A n c] 40)) w.heap.size 40 [.int .i64 (N : Int), .slice A n c]) := Row.new _ _ _
  have HS0 : Hid (w.heap.size + 1 ≤ (w.alloc (.cells #[.int .i64 (N : Int), .slice A n c] 40)).heap.size) := by show _ ≤ _; simp
  clear hA hn hN1 hl40 hed hg
  unfold graphV
  go_enter Tryd.func62, Tryd.ntmps62
  go_wp2
  generalize w.alloc (.cells #[.int .i64 (N : Int), .slice A n c] 40) = w1 at HR0 HB0 HS0 ⊢
  go_loopw [4, 3] (fun i v wr => ∃ (k : Nat) (V : Option Addr) (m cv : Nat), i = .int .i64 (k : Int) ∧ k ≤ n ∧ v = .slice V m cv ∧ m ≤ k ∧ Hid (wr.ownsRow (w.heap.size + 1) 3 1 (.slice V m cv) m (ints ((upto k).filter (inF N l)))) ∧ Hid (((upto k).filter (inF N l)).length = m) ∧ Hid (Row wr w.heap.size 40 [.int .i64 (N : Int), .slice A n c]) ∧ Hid (Below w.heap.size w wr) ∧ Hid (w.heap.size + 1 ≤ wr.heap.size)) (fun i _ _ => n - (intOf i).toNat)
  case atStart => exact ⟨0, none, 0, 0, rfl, by omega, rfl, by omega, by show World.ownsRow _ _ _ _ _ _ _; simpa [upto, ints] using World.ownsRow_nil _ _ _ _, rfl, HR0.out, HB0.out, HS0.out⟩
  case round =>
    clear HR0 HB0 HS0
    obtain ⟨k, V, m, cv, rfl, hk, rfl, hmk, HO, HL, HR, HB, HS⟩ := hrel
    have hq0 := HR.out.cell 0
    have hq1 := HR.out.cell 1
    by_cases hlt : k < n
    · have hlz : (k : Int) < n := by omega
      have hk0 : (0 : Int) ≤ k := by omega
      obtain ⟨eb, off, ea, ee, et, rfl, hbb, hx, hc0, hc1, hc2⟩ := edges_at HA.out (show k < l.length by rw [HN.out]; exact hlt)
      obtain ⟨⟨e1, e2⟩, ⟨e3, e4⟩, _⟩ := HED.out _ (List.mem_of_getElem? hx)
      simp only at e1 e2 e3 e4
      obtain ⟨ea, rfl⟩ : ∃ k : Nat, ea = k := ⟨ea.toNat, by omega⟩
      obtain ⟨ee, rfl⟩ : ∃ k : Nat, ee = k := ⟨ee.toNat, by omega⟩
      have c6 := refJoined N (some ⟨eb, off, none⟩) n c ea ee k l wr.drew ((HA.out.below (below_drewN HB.out 1) (Nat.le_refl _)).more HB.out.size) HN.out HG.out (by omega) (by omega) hlt
      obtain ⟨p, hp⟩ : ∃ p, p = joinB N l ea ee k := ⟨_, rfl⟩
      have hin := inF_join HG.out hx
      rw [← hp] at c6 hin
      have HIN := Lib.hid hin
      unfold graphV at c6
      have C6 := Lib.hid c6
      rw [← HB.out.cell hbb] at hc0 hc1
      have HLT : Hid (eb < wr.heap.size) := Nat.lt_of_lt_of_le hbb HB.out.size
      have hup : (upto (k + 1)).filter (inF N l) = (upto k).filter (inF N l) ++ (if inF N l (k : Int) = true then [(k : Int)] else []) := by
        have e : upto (k + 1) = upto k ++ [(k : Int)] := by simp [upto, List.range_succ]
        rw [e, List.filter_append]
        congr 1
        by_cases hc : inF N l (k : Int) = true
        · rw [if_pos hc]; simp [hc]
        · rw [if_neg hc]; simp [hc]
      have HUP := Lib.hid hup
      clear hx hp hin c6 hup hc2
      go_upto_region 5 with fail
      go_region_held3 (fun W => W.cell? ⟨w.heap.size, 0, none⟩ = some (.int .i64 (N : Int)) ∧ W.cell? ⟨w.heap.size, 1, none⟩ = some (.slice (some ⟨eb, off, none⟩) n c) ∧ W.cell? ⟨eb, off + k * 3, none⟩ = some (.int .i64 (ea : Int)) ∧ W.cell? ⟨eb, off + k * 3 + 1, none⟩ = some (.int .i64 (ee : Int))) (first | go_keep | (go_split_ands; refine ⟨?_, ?_, ?_, ?_⟩ <;> assumption)) (first | (go_at_call 98; refine C6.out.mono ?_; rintro e w6 ⟨rfl, hb6⟩; have f0 := (HR.out.drewN 1).step hb6; have f1 := f0.cell 0; have f2 := f0.cell 1; have f3 := (hb6.cell (p := ⟨eb, off + k * 3, none⟩) HLT.out).trans hc0; have f4 := (hb6.cell (p := ⟨eb, off + k * 3 + 1, none⟩) HLT.out).trans hc1))
      have HO6 : Hid (w6.ownsRow (w.heap.size + 1) 3 1 (.slice V m cv) m (ints ((upto k).filter (inF N l)))) := own_still (show wr.drew.ownsRow (w.heap.size + 1) 3 1 (.slice V m cv) m (ints ((upto k).filter (inF N l))) from HO.out) hb6
      have HR6 := Lib.hid f0
      have HB6 : Hid (Below w.heap.size w w6) := (below_drewN HB.out 1).trans (hb6.mono HB.out.size)
      have HS6 : Hid (w.heap.size + 1 ≤ w6.heap.size) := Nat.le_trans HS.out hb6.size
      clear HO HR HB HS hb6 f0 f1 f2 f3 f4 hc0 hc1 hq0 hq1 C6
      cases p with
      | true =>
        have HU2 : Hid ((upto (k + 1)).filter (inF N l) = (upto k).filter (inF N l)) := by
          show _ = _
          rw [HUP.out, HIN.out]; simp
        go_wp2
        go_roundw
        case rel => exact ⟨k + 1, V, m, cv, by go_num, by omega, rfl, by omega, by show World.ownsRow _ _ _ _ _ _ _; rw [HU2.out]; exact HO6.out, by show _ = _; rw [HU2.out]; exact HL.out, HR6.out, HB6.out, HS6.out⟩
        case measure => simp [intOf]; omega
      | false =>
        have HU2 : Hid ((upto (k + 1)).filter (inF N l) = (upto k).filter (inF N l) ++ [(k : Int)]) := by
          show _ = _
          rw [HUP.out, HIN.out]; simp
        have hnew : ∀ i : Nat, (w6.alloc (.cells #[.int .i64 (k : Int)] 3)).cell? ⟨w6.heap.size, i, none⟩ = ([.int .i64 (k : Int)] : List Value)[i]? := fun i => (Row.new w6 3 #[.int .i64 (k : Int)]).cell i
        have HNEW := Lib.hid hnew
        have hsz := HS6.out
        clear hnew
        go_wp2_with (at_builtin; refine wp_push _ rfl (.tmp 28) (.tmp 30) 29 rfl (w.heap.size + 1) 3 1 8 _ Tryd.underlying29 info_int rfl (by omega) V m cv (ints ((upto k).filter (inF N l))) rfl (HO6.out.alloc _) w6.heap.size 1 [.int .i64 (k : Int)] rfl rfl (fun i u hu => (HNEW.out i).trans hu) (by intro u hu; simp at hu; subst hu; rfl) (by omega) (by omega) (by rw [World.size_alloc]; omega) ?_; intro g1 c1 w4 ho4 hb4 hg4 hgr4 hat4)
        have HO4 := Lib.hid ho4
        have HR4 : Hid (Row w4 w.heap.size 40 [.int .i64 (N : Int), .slice (some ⟨eb, off, none⟩) n c]) := (HR6.out.alloc _).grown hgr4 (fun e => by have := (HO6.out.lt _ e.symm).1; omega)
        have HB4 : Hid (Below w.heap.size w w4) := (HB6.out.alloc (by omega) _).trans (hb4.mono (by omega))
        have HS4 : Hid (w.heap.size + 1 ≤ w4.heap.size) := Nat.le_trans hsz (Nat.le_trans (by simp) hb4.size)
        clear ho4 hb4 hgr4 hat4
        go_roundw
        case rel =>
          refine ⟨k + 1, _, m + 1, c1, by go_num, by omega, rfl, by omega, ?_, ?_, HR4.out, HB4.out, HS4.out⟩
          · show World.ownsRow _ _ _ _ _ _ _
            rw [HU2.out, ints_append]; exact HO4.out
          · show _ = _
            rw [HU2.out, List.length_append, HL.out]; rfl
        case measure => simp [intOf]; omega
    · have hlz : ¬ (k : Int) < n := by omega
      have hkn : k = n := by omega
      subst hkn
      go_wp2
      go_ret
      exact ⟨V, m, cv, rfl, by rw [← HFI.out]; exact HL.out, by rw [← HFI.out]; exact own_base HO.out (by omega), HB.out⟩
end Go.Proofs.YtpaoiaogcckibaaDoor
