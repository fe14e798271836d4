/- core.Heap of path.far: Push, walked. Conditions: at most 10000 things. -/
import Derived.Test.YtmcfhiddhifdcaaDoorHeapFarA
import Derived.Deep.RegionHeld3
import Derived.Deep.DeepCutAuto
import Derived.Deep.CutRange
import Derived.BigRegion
namespace Go.Proofs.YtmcfhiddhifdcaaDoor
open Go.RowKit
/-- the blocks that a heap lies in -/
def frBl (p : Nat) (V : Option Addr) : List Nat := p :: (match V with | some a => [a.block] | none => [])
def frPushOK (w : World) (base p n : Nat) (V : Option Addr) (ys : List Fr) (x : Fr) (_ : Unit) (e : Ending) (w' : World) : Prop :=
  e = .returned (.tuple #[]) ∧ ∃ g c' zs, frHeap w' base p (n + 1) (some ⟨g, 0, none⟩) c' zs (.func (.func 23) #[] #[]) ∧ HeapOrd nearerB zs ∧ zs.Perm (x :: ys) ∧ Keeps (frBl p V) w w' ∧ (g ∈ frBl p V ∨ w.heap.size ≤ g)
set_option maxHeartbeats 4000000 in
theorem fr_push {w : World} {base p n c : Nat} {V : Option Addr} {ys : List Fr} (x : Fr) (h : frHeap w base p n V c ys (.func (.func 23) #[] #[])) (ho : HeapOrd nearerB ys) (hm : n ≤ 10000)
    (hf : ∀ W : World, Keeps (frBl p V) w W → ∀ x y : Fr, Calls Tryd.prog 23 (#[x.val, y.val] ++ #[]) W fun e w' => e = .returned (.bool (nearerB x y)) ∧ Below W.heap.size W w') :
    Calls Tryd.prog 26 #[.pointer (some ⟨p, 0, none⟩), x.val] w (frPushOK w base p n V ys x ()) := by
  have H := Lib.hid h
  have HO := Lib.hid ho
  have HFF := Lib.hid hf
  have hc0 : ∀ O, (w.alloc O).cell? ⟨p, 0, none⟩ = some (.slice V n c) := fun O => (h.row.alloc O).cell 0
  have hc00 : ∀ O O', ((w.alloc O).alloc O').cell? ⟨p, 0, none⟩ = some (.slice V n c) := fun O O' => ((h.row.alloc O).alloc O').cell 0
  have hpl := h.row.lt
  have hown := h.own
  have hb := h.at_
  obtain ⟨a0, a1, a2⟩ := x
  have hnew := fun (W : World) => (Row.new W 52 #[.int .i64 a0, .int .i64 a1, .int .i64 a2]).cell
  clear h ho hf
  unfold Fr.val
  go_enter Tryd.func26, Tryd.ntmps26
  have hnew2 : ∀ (W : World) (j : Nat), W.heap.size = w.heap.size + 1 → (W.alloc (Obj.cells #[.int .i64 a0, .int .i64 a1, .int .i64 a2] 52)).cell? ⟨w.heap.size + 1, j, none⟩ = ([.int .i64 a0, .int .i64 a1, .int .i64 a2] : List Value)[j]? := fun W j hW => by rw [← hW]; exact hnew W j
  have hne := own_ne_row H.out.own H.out.row (by decide)
  have hrow2 : ∀ (O O' : Obj) (W' : World), ((w.alloc O).alloc O').drew.grownBy W' (Value.slice V n c).ownBlock → Row W' p 67 [.slice V n c, .func (.func 23) #[] #[]] := fun O O' W' hg => by
    have h2 : Row ((w.alloc O).alloc O').drew p 67 [.slice V n c, .func (.func 23) #[] #[]] := (H.out.row.alloc O).alloc O'
    exact h2.grown hg (fun e => hne e.symm)
  have HROW2 := Lib.hid hrow2
  clear hrow2 hne
  go_upto_region 1 with fail
  go_cut [13] from 6 to 21 (fun v wx => ∃ g1 c1, v = .slice (some ⟨g1, 0, none⟩) (n + 1) c1 ∧ Hid (frHeap wx base p (n + 1) (some ⟨g1, 0, none⟩) c1 (ys ++ [⟨a0, a1, a2⟩]) (.func (.func 23) #[] #[])) ∧ Hid (Keeps (frBl p V) w wx) ∧ Hid (g1 ∈ frBl p V ∨ w.heap.size ≤ g1))
  case first =>
    go_region_law (go_must (refine step_push _ rfl (.tmp 10) (.tmp 12) 49 rfl base 52 3 24 _ Tryd.underlying49 info_fr rfl (by omega) V n c _ rfl ((hown.alloc _).alloc _).drew (w.heap.size + 1) 1 [.int .i64 a0, .int .i64 a1, .int .i64 a2] rfl rfl (fun j u hu => (hnew2 (w.alloc _) j (by simp)).trans hu) (by intro u hu; simp at hu; rcases hu with rfl | rfl | rfl <;> rfl) (by omega) (by omega) (by simp; omega) ?_); intro g1 c1 w3 hown3 hb3 hg3 hgr3 hat3; have hr3 := HROW2.out _ _ _ hgr3; have hx3 := hr3.cell 0; have hf3 := hr3.frozen 0)
    all_goals (
      go_wp2
      go_meet
      refine ⟨g1, c1, rfl, ⟨?_, ?_, hb⟩, ?_, ?_⟩
      · exact hr3.set_ 0 (.slice (some ⟨g1, 0, none⟩) (n + 1) c1)
      · have hne3 := own_ne_row hown3 hr3 (by decide)
        have := ownsRow_setCell_other (a := ⟨p, 0, none⟩) hown3 hne3 (.slice (some ⟨g1, 0, none⟩) (n + 1) c1)
        rw [fr_snoc]; exact this
      · have k1 : Keeps (frBl p V) w w3 := (((Keeps.refl _ _).alloc _).alloc _).drew.trans (Keeps.ofGrown hgr3 (fun k hk => Or.inl (by
          cases V with
          | none => simp [Value.ownBlock] at hk
          | some a => simp only [Value.ownBlock, Option.some.injEq] at hk; simp [frBl, hk])))
        exact k1.setCell (Or.inl (by simp [frBl])) _
      · rcases hat3 with h | h
        · left
          cases V with
          | none => simp [Value.ownBlock] at h
          | some a => simp only [Value.ownBlock, Option.some.injEq] at h; simp [frBl, h]
        · right
          have : w.heap.size + 2 = ((w.alloc (Obj.cells #[.int .i64 a0, .int .i64 a1, .int .i64 a2] 52)).alloc (Obj.cells #[.int .i64 a0, .int .i64 a1, .int .i64 a2] 52)).drew.heap.size := by simp [World.drew]
          show w.heap.size ≤ g1
          omega)
  case rest =>
  clear hc0 hc00 hnew hnew2 HROW2 hown
  obtain ⟨g1, c1, rfl, HP1, HK1, HG1⟩ := hcut
  have hx0 : wc.cell? ⟨p, 0, none⟩ = some (.slice (some ⟨g1, 0, none⟩) (n + 1) c1) := HP1.out.c0
  have hw0 : IntKind.i64.wrap ((n : Int) + 1 - 1) = (n : Int) := by rw [IntKind.wrap_i64]; omega
  have HUP : Hid (UpAt nearerB (ys ++ [⟨a0, a1, a2⟩]) n) := by show UpAt _ _ _; rw [← H.out.len]; exact UpAt.start HO.out _
  go_wp2
  go_loopw [4] (fun i wr => ∃ (k : Nat) (zs : List Fr), i = .int .i64 (k : Int) ∧ k < n + 1 ∧ Hid (UpAt nearerB zs k) ∧ Hid (zs.Perm (ys ++ [⟨a0, a1, a2⟩])) ∧ Hid (frHeap wr base p (n + 1) (some ⟨g1, 0, none⟩) c1 zs (.func (.func 23) #[] #[])) ∧ Hid (Keeps (frBl p V) w wr)) (fun i _ => (intOf i).toNat)
  case atStart => exact ⟨n, _, rfl, by omega, HUP.out, List.Perm.refl _, HP1.out, HK1.out⟩
  case round =>
    obtain ⟨k, zs, rfl, hk, HU, HP, HH, HKP⟩ := hrel
    clear hx0 hw0
    have hfin : ∀ W, HeapOrd nearerB zs → frHeap W base p (n + 1) (some ⟨g1, 0, none⟩) c1 zs (.func (.func 23) #[] #[]) → Keeps (frBl p V) w W → frPushOK w base p n V ys ⟨a0, a1, a2⟩ () (.returned (.tuple #[])) W := fun W h1 h2 h3 =>
      ⟨rfl, g1, c1, zs, h2, h1, HP.out.trans (List.perm_append_singleton _ _), h3, HG1.out⟩
    have HFIN := Lib.hid hfin
    have HGK : Hid (g1 ∈ frBl p V ∨ w.heap.size ≤ g1) := HG1.out
    clear hfin
    by_cases hk0 : 0 < k
    · have hkz : (0 : Int) < k := by omega
      obtain ⟨q, hq⟩ : ∃ q, q = (k - 1) / 2 := ⟨_, rfl⟩
      have hqz : ((k : Int) - 1) / 2 = (q : Int) := by omega
      have hqk : q < k := by omega
      have HQ := Lib.hid hq
      clear hq
      have hx0 := HH.out.c0
      have hx1 := HH.out.c1
      obtain ⟨ek, hek⟩ : ∃ z, z = zs[k]! := ⟨_, rfl⟩
      have ck := HH.out.get (k := k) (by omega)
      rw [← hek] at ck
      have HEk := Lib.hid hek
      clear hek
      obtain ⟨k0, k1, k2⟩ := ek
      obtain ⟨ck0, ck1, ck2⟩ := ck
      simp only at ck0 ck1 ck2
      obtain ⟨eq, heq⟩ : ∃ z, z = zs[q]! := ⟨_, rfl⟩
      have cq := HH.out.get (k := q) (by omega)
      rw [← heq] at cq
      have HEq := Lib.hid heq
      clear heq
      obtain ⟨q0, q1, q2⟩ := eq
      obtain ⟨cq0, cq1, cq2⟩ := cq
      simp only at cq0 cq1 cq2
      have b1 : (0 : Int) ≤ (k : Int) := by omega
      have b2 : (k : Int) < (n : Int) + 1 := by omega
      have b3 : (0 : Int) ≤ (q : Int) := by omega
      have b4 : (q : Int) < (n : Int) + 1 := by omega
      have hcf := HFF.out wr.drew HKP.out.drew ⟨k0, k1, k2⟩ ⟨q0, q1, q2⟩
      have HCF := Lib.hid hcf
      clear hcf
      cases hlt : nearerB ⟨k0, k1, k2⟩ ⟨q0, q1, q2⟩ with
      | true =>
        rw [hlt] at HCF
        have HL := Lib.hid hlt
        clear hlt
        go_wp2
        rw [hqz]
        go_region_held3 (fun W => W.cell? ⟨p, 0, none⟩ = some (.slice (some ⟨g1, 0, none⟩) (n + 1) c1) ∧ W.cell? ⟨p, 1, none⟩ = some (.func (.func 23) #[] #[]) ∧ W.cell? ⟨g1, k * 3, none⟩ = some (.int .i64 k0) ∧ W.cell? ⟨g1, k * 3 + 1, none⟩ = some (.int .i64 k1) ∧ W.cell? ⟨g1, k * 3 + 2, none⟩ = some (.int .i64 k2) ∧ W.cell? ⟨g1, q * 3, none⟩ = some (.int .i64 q0) ∧ W.cell? ⟨g1, q * 3 + 1, none⟩ = some (.int .i64 q1) ∧ W.cell? ⟨g1, q * 3 + 2, none⟩ = some (.int .i64 q2)) (first | go_keep | (go_split_ands; refine ⟨?_, ?_, ?_, ?_, ?_, ?_, ?_, ?_⟩ <;> assumption)) (first | (go_at_call 23; refine HCF.out.mono ?_; rintro e w2 ⟨rfl, hb2⟩; have h2 := HH.out.drew.step hb2; have d0 := h2.c0; have d1 := h2.c1; have dk := h2.get (k := k) (by omega); have dq := h2.get (k := q) (by omega); rw [← HEk.out] at dk; rw [← HEq.out] at dq; obtain ⟨dk0, dk1, dk2⟩ := dk; obtain ⟨dq0, dq1, dq2⟩ := dq))
        have HH2 := Lib.hid h2
        have HK2 : Hid (Keeps (frBl p V) w w2) := HKP.out.drew.trans (Keeps.ofBelow hb2)
        clear h2 hb2 hx0 hx1 ck0 ck1 ck2 cq0 cq1 cq2 HH HKP HCF
        have hpa := HH2.out.put k ⟨q0, q1, q2⟩
        have hpb := hpa.put q ⟨k0, k1, k2⟩
        have HPB := Lib.hid hpb.drew
        have fk0 := HH2.out.free (k * 3)
        have fk1 := HH2.out.free (k * 3 + 1)
        have fk2 := HH2.out.free (k * 3 + 2)
        have fq0 := HH2.out.free (q * 3)
        have fq1 := HH2.out.free (q * 3 + 1)
        have fq2 := HH2.out.free (q * 3 + 2)
        have hcq := hpa.get (k := q) (by omega)
        have hzq : (zs.set k ⟨q0, q1, q2⟩)[q]! = ⟨q0, q1, q2⟩ := by rw [gset _ _ _ _ (by have := HH2.out.len; omega), if_neg (by omega)]; exact HEq.out.symm
        rw [hzq] at hcq
        obtain ⟨eq0, eq1, eq2⟩ := hcq
        simp only at eq0 eq1 eq2
        clear hpa hpb hzq
        go_wp2
        go_big_region
        have HK3 : Hid (Keeps (frBl p V) w ((((((w2.setCell ⟨g1, k * 3, none⟩ (.int .i64 q0)).setCell ⟨g1, k * 3 + 1, none⟩ (.int .i64 q1)).setCell ⟨g1, k * 3 + 2, none⟩ (.int .i64 q2)).setCell ⟨g1, q * 3, none⟩ (.int .i64 k0)).setCell ⟨g1, q * 3 + 1, none⟩ (.int .i64 k1)).setCell ⟨g1, q * 3 + 2, none⟩ (.int .i64 k2)).drew) := ((((((HK2.out.setCell HGK.out _).setCell HGK.out _).setCell HGK.out _).setCell HGK.out _).setCell HGK.out _).setCell HGK.out _).drew
        generalize ((((((w2.setCell ⟨g1, k * 3, none⟩ (.int .i64 q0)).setCell ⟨g1, k * 3 + 1, none⟩ (.int .i64 q1)).setCell ⟨g1, k * 3 + 2, none⟩ (.int .i64 q2)).setCell ⟨g1, q * 3, none⟩ (.int .i64 k0)).setCell ⟨g1, q * 3 + 1, none⟩ (.int .i64 k1)).setCell ⟨g1, q * 3 + 2, none⟩ (.int .i64 k2)).drew = w3 at HPB HK3 ⊢
        clear fk0 fk1 fk2 fq0 fq1 fq2 eq0 eq1 eq2
        go_wp2
        go_roundw
        case rel =>
          have hln := HH2.out.len
          have e1 : (zs.set k ⟨q0, q1, q2⟩).set q ⟨k0, k1, k2⟩ = swapped zs k ((k - 1) / 2) := by unfold swapped; rw [← HQ.out, ← HEk.out, ← HEq.out]
          refine ⟨q, swapped zs k ((k - 1) / 2), rfl, by omega, ?_, (swapped_perm zs (by omega) (by omega)).trans HP.out, ?_, HK3⟩
          · have := UpAt.step nearerB_first HU.out hk0 (by omega) (by rw [← HQ.out, ← HEk.out, ← HEq.out]; exact HL.out)
            rw [HQ.out]; exact this
          · rw [← e1]; exact HPB
        case measure => simp [intOf]; omega
      | false =>
        rw [hlt] at HCF
        have HL := Lib.hid hlt
        clear hlt
        go_wp2
        rw [hqz]
        go_region_held3 (fun W => W.cell? ⟨p, 0, none⟩ = some (.slice (some ⟨g1, 0, none⟩) (n + 1) c1) ∧ W.cell? ⟨p, 1, none⟩ = some (.func (.func 23) #[] #[]) ∧ W.cell? ⟨g1, k * 3, none⟩ = some (.int .i64 k0) ∧ W.cell? ⟨g1, k * 3 + 1, none⟩ = some (.int .i64 k1) ∧ W.cell? ⟨g1, k * 3 + 2, none⟩ = some (.int .i64 k2) ∧ W.cell? ⟨g1, q * 3, none⟩ = some (.int .i64 q0) ∧ W.cell? ⟨g1, q * 3 + 1, none⟩ = some (.int .i64 q1) ∧ W.cell? ⟨g1, q * 3 + 2, none⟩ = some (.int .i64 q2)) (first | go_keep | (go_split_ands; refine ⟨?_, ?_, ?_, ?_, ?_, ?_, ?_, ?_⟩ <;> assumption)) (first | (go_at_call 23; refine HCF.out.mono ?_; rintro e w2 ⟨rfl, hb2⟩; have h2 := HH.out.drew.step hb2; have d0 := h2.c0; have d1 := h2.c1; have dk := h2.get (k := k) (by omega); have dq := h2.get (k := q) (by omega); rw [← HEk.out] at dk; rw [← HEq.out] at dq; obtain ⟨dk0, dk1, dk2⟩ := dk; obtain ⟨dq0, dq1, dq2⟩ := dq))
        have HH2 := Lib.hid h2
        have HK2 : Hid (Keeps (frBl p V) w w2) := HKP.out.drew.trans (Keeps.ofBelow hb2)
        clear h2 hb2 hx0 hx1 ck0 ck1 ck2 cq0 cq1 cq2 HH HKP HCF
        go_wp2
        refine bodyPost_ret (results_none rfl _ _ _) rfl ?_
        exact HFIN.out _ (HU.out.done (Or.inr (by rw [← HQ.out, ← HEk.out, ← HEq.out]; exact HL.out))) HH2.out HK2.out
    · have hkz : ¬ (0 : Int) < k := by omega
      have h0 : k = 0 := by omega
      go_wp2
      go_end0
      exact HFIN.out _ (HU.out.done (Or.inl h0)) HH.out HKP.out
end Go.Proofs.YtmcfhiddhifdcaaDoor
