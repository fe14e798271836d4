/- core.Heap of int: Push, walked. Conditions: at most 10000 things. -/
import Derived.Test.YtpaoiaogcckibaaDoorHeapIntA
import Derived.Deep.RegionHeld3
import Derived.Deep.DeepCutAuto
import Derived.Deep.CutRange
import Derived.BigRegion
namespace Go.Proofs.YtpaoiaogcckibaaDoor
open Go.RowKit
def inPushOK (w : World) (base p n : Nat) (V : Option Addr) (ys : List Int) (x : Int) (lt : Int → Int → Bool) (gb : Nat) (e : Ending) (w' : World) : Prop :=
  e = .returned (.tuple #[]) ∧ ∃ g c' zs, inHeap w' base p (n + 1) (some ⟨g, 0, none⟩) c' zs (.func (.func 102) #[] #[.pointer (some ⟨gb, 0, none⟩)]) ∧ HeapOrd lt zs ∧ zs.Perm (x :: ys) ∧ Keeps (inBl p V) w w' ∧ (g ∈ inBl p V ∨ w.heap.size ≤ g)
set_option maxHeartbeats 4000000 in
theorem in_push {w : World} {base p n c gb : Nat} {V : Option Addr} {ys : List Int} {P : Int → Prop} {lt : Int → Int → Bool} (hlt : Firsts lt) (a0 : Int) (h : inHeap w base p n V c ys (.func (.func 102) #[] #[.pointer (some ⟨gb, 0, none⟩)])) (ho : HeapOrd lt ys) (hm : n ≤ 10000) (hP : P a0 ∧ ∀ y ∈ ys, P y)
    (hf : ∀ W : World, Keeps (inBl p V) w W → ∀ x y : Int, P x → P y → Calls Tryd.prog 102 (#[.int .i64 x, .int .i64 y] ++ #[.pointer (some ⟨gb, 0, none⟩)]) W fun e w' => e = .returned (.bool (lt x y)) ∧ Below W.heap.size W w') :
    Calls Tryd.prog 104 #[.pointer (some ⟨p, 0, none⟩), .int .i64 a0] w (inPushOK w base p n V ys a0 lt gb) := by
  have H := Lib.hid h
  have HO := Lib.hid ho
  have HFF := Lib.hid hf
  have HPA : Hid (∀ y ∈ ys ++ [a0], P y) := fun y hy => by
    rcases List.mem_append.1 hy with h | h
    · exact hP.2 y h
    · simp at h; subst h; exact hP.1
  have HLT := Lib.hid hlt
  have hc0 := h.c0
  have hca : ∀ O, (w.alloc O).cell? ⟨p, 0, none⟩ = some (.slice V n c) := fun O => (h.row.alloc O).cell 0
  have hb := h.at_
  have hpl := h.row.lt
  have HNEW := Lib.hid (fun i => (Row.new w 3 #[.int .i64 a0]).cell i)
  have hne := own_ne_row h.own h.row (by decide)
  have HROW : Hid (∀ (O : Obj) (W' : World), (w.alloc O).grownBy W' (Value.slice V n c).ownBlock → Row W' p 172 [.slice V n c, (.func (.func 102) #[] #[.pointer (some ⟨gb, 0, none⟩)])]) := fun O W' hg => (h.row.alloc O).grown hg (fun e => hne e.symm)
  have HOA := Lib.hid (h.own.alloc (.cells #[.int .i64 a0] 3))
  have hw0 : IntKind.i64.wrap ((n : Int) + 1 - 1) = (n : Int) := by rw [IntKind.wrap_i64]; omega
  clear h ho hf hP hne hlt
  go_enter Tryd.func104, Tryd.ntmps104
  go_wp2_with (at_builtin; refine wp_push _ rfl (.tmp 10) (.tmp 12) 29 rfl base 3 1 8 _ Tryd.underlying29 info_int rfl (by omega) V n c (ints ys) rfl HOA.out w.heap.size 1 [.int .i64 a0] rfl rfl (fun i u hu => (HNEW.out i).trans hu) (by intro u hu; simp at hu; subst hu; rfl) (by omega) (by omega) (by simp; omega) ?_; intro g1 c1 w3 hown3 hb3 hg3 hgr3 hat3; have hr3 := HROW.out _ _ hgr3; have hx3 := hr3.cell 0; have hf3 := hr3.frozen 0)
  have HP1 : Hid (inHeap (w3.setCell ⟨p, 0, none⟩ (.slice (some ⟨g1, 0, none⟩) (n + 1) c1)) base p (n + 1) (some ⟨g1, 0, none⟩) c1 (ys ++ [a0]) (.func (.func 102) #[] #[.pointer (some ⟨gb, 0, none⟩)])) := by
    refine ⟨hr3.set_ 0 (.slice (some ⟨g1, 0, none⟩) (n + 1) c1), ?_, hb⟩
    have hne3 := own_ne_row hown3 hr3 (by decide)
    have := ownsRow_setCell_other (a := ⟨p, 0, none⟩) hown3 hne3 (.slice (some ⟨g1, 0, none⟩) (n + 1) c1)
    rw [ints_append]; exact this
  have HK1 : Hid (Keeps (inBl p V) w (w3.setCell ⟨p, 0, none⟩ (.slice (some ⟨g1, 0, none⟩) (n + 1) c1))) := by
    have k1 : Keeps (inBl p V) w w3 := ((Keeps.refl _ _).alloc _).trans (Keeps.ofGrown hgr3 (fun k hk => Or.inl (by
      cases V with
      | none => simp [Value.ownBlock] at hk
      | some a => simp only [Value.ownBlock, Option.some.injEq] at hk; simp [inBl, hk])))
    exact k1.setCell (Or.inl (by simp [inBl])) _
  have HG1 : Hid (g1 ∈ inBl p V ∨ w.heap.size ≤ g1) := by
    rcases hat3 with h | h
    · left
      cases V with
      | none => simp [Value.ownBlock] at h
      | some a => simp only [Value.ownBlock, Option.some.injEq] at h; simp [inBl, h]
    · right
      rw [h]; simp
  have HUP : Hid (UpAt lt (ys ++ [a0]) n) := by show UpAt _ _ _; rw [← H.out.len]; exact UpAt.start HO.out _
  generalize w3.setCell ⟨p, 0, none⟩ (.slice (some ⟨g1, 0, none⟩) (n + 1) c1) = w4 at HP1 HK1 ⊢
  clear hc0 hca HNEW HROW HOA hown3 hb3 hg3 hgr3 hat3 hr3 hx3 hf3
  go_loopw [4] (fun i wr => ∃ (k : Nat) (zs : List Int), i = .int .i64 (k : Int) ∧ k < n + 1 ∧ Hid (UpAt lt zs k) ∧ Hid (zs.Perm (ys ++ [a0])) ∧ Hid (inHeap wr base p (n + 1) (some ⟨g1, 0, none⟩) c1 zs (.func (.func 102) #[] #[.pointer (some ⟨gb, 0, none⟩)])) ∧ Hid (Keeps (inBl p V) w wr)) (fun i _ => (intOf i).toNat)
  case atStart => exact ⟨n, _, rfl, by omega, HUP.out, List.Perm.refl _, HP1.out, HK1.out⟩
  case round =>
    clear HP1 HK1
    obtain ⟨k, zs, rfl, hk, HU, HP, HH, HKP⟩ := hrel
    clear hw0
    have hfin : ∀ W, HeapOrd lt zs → inHeap W base p (n + 1) (some ⟨g1, 0, none⟩) c1 zs (.func (.func 102) #[] #[.pointer (some ⟨gb, 0, none⟩)]) → Keeps (inBl p V) w W → inPushOK w base p n V ys a0 lt gb (.returned (.tuple #[])) W := fun W h1 h2 h3 =>
      ⟨rfl, g1, c1, zs, h2, h1, HP.out.trans (List.perm_append_singleton _ _), h3, HG1.out⟩
    have HFIN := Lib.hid hfin
    clear hfin
    by_cases hk0 : 0 < k
    · have hkz : (0 : Int) < k := by omega
      obtain ⟨q, hq⟩ : ∃ q, q = (k - 1) / 2 := ⟨_, rfl⟩
      have hqz : ((k : Int) - 1) / 2 = (q : Int) := by omega
      have hqk : q < k := by omega
      have HQ := Lib.hid hq
      clear hq
      have hx0 := HH.out.c0
      have hx1 := HH.out.c1
      have hlen := HH.out.len
      have hPk := HPA.out _ (HP.out.mem_iff.1 (in_mem (k := k) (show k < zs.length by omega)))
      have hPq := HPA.out _ (HP.out.mem_iff.1 (in_mem (k := q) (show q < zs.length by omega)))
      obtain ⟨k0, hek⟩ : ∃ z, z = zs[k]! := ⟨_, rfl⟩
      have ck := HH.out.get (k := k) (by omega)
      rw [← hek] at ck hPk
      have HEk := Lib.hid hek
      obtain ⟨q0, heq⟩ : ∃ z, z = zs[q]! := ⟨_, rfl⟩
      have cq := HH.out.get (k := q) (by omega)
      rw [← heq] at cq hPq
      have HEq := Lib.hid heq
      have b1 : (0 : Int) ≤ (k : Int) := by omega
      have b2 : (k : Int) < (n : Int) + 1 := by omega
      have b3 : (0 : Int) ≤ (q : Int) := by omega
      have b4 : (q : Int) < (n : Int) + 1 := by omega
      have HCF := Lib.hid (HFF.out wr.drew HKP.out.drew k0 q0 hPk hPq)
      clear hek heq hPk hPq hlen
      cases hll : lt k0 q0 with
      | true =>
        rw [hll] at HCF
        have HL := Lib.hid hll
        clear hll
        go_wp2
        rw [hqz]
        go_region_held3 (fun W => W.cell? ⟨p, 0, none⟩ = some (.slice (some ⟨g1, 0, none⟩) (n + 1) c1) ∧ W.cell? ⟨p, 1, none⟩ = some (.func (.func 102) #[] #[.pointer (some ⟨gb, 0, none⟩)]) ∧ W.cell? ⟨g1, k, none⟩ = some (.int .i64 k0) ∧ W.cell? ⟨g1, q, none⟩ = some (.int .i64 q0)) (first | go_keep | (go_split_ands; refine ⟨?_, ?_, ?_, ?_⟩ <;> assumption)) (first | (go_at_call 102; refine HCF.out.mono ?_; rintro e w2 ⟨rfl, hb2⟩; have h2 := HH.out.drew.step hb2; have d0 := h2.c0; have d1 := h2.c1; have dk := h2.get (k := k) (by omega); have dq := h2.get (k := q) (by omega); rw [← HEk.out] at dk; rw [← HEq.out] at dq))
        have HH2 := Lib.hid h2
        have HK2 : Hid (Keeps (inBl p V) w w2) := HKP.out.drew.trans (Keeps.ofBelow hb2)
        clear h2 hb2 hx0 hx1 ck cq HH HKP HCF
        have hpa := HH2.out.put k q0
        have hpb := hpa.put q k0
        have HPB := Lib.hid hpb.drew
        have fk := HH2.out.free k
        have fq := HH2.out.free q
        have hcq := hpa.get (k := q) (by omega)
        have hzq : (zs.set k q0)[q]! = q0 := by rw [gset _ _ _ _ (by have := HH2.out.len; omega), if_neg (by omega)]; exact HEq.out.symm
        rw [hzq] at hcq
        clear hpa hpb hzq
        go_wp2
        go_big_region
        have HK3 : Hid (Keeps (inBl p V) w ((w2.setCell ⟨g1, k, none⟩ (.int .i64 q0)).setCell ⟨g1, q, none⟩ (.int .i64 k0)).drew) := ((HK2.out.setCell HG1.out _).setCell HG1.out _).drew
        generalize ((w2.setCell ⟨g1, k, none⟩ (.int .i64 q0)).setCell ⟨g1, q, none⟩ (.int .i64 k0)).drew = w5 at HPB HK3 ⊢
        clear fk fq hcq
        go_wp2
        go_roundw
        case rel =>
          have hln := HH2.out.len
          have e1 : (zs.set k q0).set q k0 = swapped zs k ((k - 1) / 2) := by unfold swapped; rw [← HQ.out, ← HEk.out, ← HEq.out]
          refine ⟨q, swapped zs k ((k - 1) / 2), rfl, by omega, ?_, (swapped_perm zs (by omega) (by omega)).trans HP.out, ?_, HK3.out⟩
          · have := UpAt.step HLT.out HU.out hk0 (by omega) (by rw [← HQ.out, ← HEk.out, ← HEq.out]; exact HL.out)
            rw [HQ.out]; exact this
          · rw [← e1]; exact HPB.out
        case measure => simp [intOf]; omega
      | false =>
        rw [hll] at HCF
        have HL := Lib.hid hll
        clear hll
        go_wp2
        rw [hqz]
        go_region_held3 (fun W => W.cell? ⟨p, 0, none⟩ = some (.slice (some ⟨g1, 0, none⟩) (n + 1) c1) ∧ W.cell? ⟨p, 1, none⟩ = some (.func (.func 102) #[] #[.pointer (some ⟨gb, 0, none⟩)]) ∧ W.cell? ⟨g1, k, none⟩ = some (.int .i64 k0) ∧ W.cell? ⟨g1, q, none⟩ = some (.int .i64 q0)) (first | go_keep | (go_split_ands; refine ⟨?_, ?_, ?_, ?_⟩ <;> assumption)) (first | (go_at_call 102; refine HCF.out.mono ?_; rintro e w2 ⟨rfl, hb2⟩; have h2 := HH.out.drew.step hb2; have d0 := h2.c0; have d1 := h2.c1; have dk := h2.get (k := k) (by omega); have dq := h2.get (k := q) (by omega); rw [← HEk.out] at dk; rw [← HEq.out] at dq))
        have HH2 := Lib.hid h2
        have HK2 : Hid (Keeps (inBl p V) w w2) := HKP.out.drew.trans (Keeps.ofBelow hb2)
        clear h2 hb2 hx0 hx1 ck cq HH HKP HCF
        go_wp2
        refine bodyPost_ret (results_none rfl _ _ _) rfl ?_
        exact HFIN.out _ (HU.out.done (Or.inr (by rw [← HQ.out, ← HEk.out, ← HEq.out]; exact HL.out))) HH2.out HK2.out
    · have hkz : ¬ (0 : Int) < k := by omega
      have h0 : k = 0 := by omega
      go_wp2
      go_end0
      exact HFIN.out _ (HU.out.done (Or.inl h0)) HH.out HKP.out
end Go.Proofs.YtpaoiaogcckibaaDoor
