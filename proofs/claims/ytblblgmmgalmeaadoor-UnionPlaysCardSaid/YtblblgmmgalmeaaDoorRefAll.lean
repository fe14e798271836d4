/- What the document's All answers: the groups, each rising, by their least things. Conditions: at most 60 things, each named by the least one of its group. -/
import Derived.Test.YtblblgmmgalmeaaDoorRefGroups
namespace Go.Proofs.YtblblgmmgalmeaaDoor
open Go.RowKit
theorem firsts_canon {L : Nat → Nat} (hle : ∀ x, L x ≤ x) (hid : ∀ x, L (L x) = L x) (k : Nat) : firsts L (k + 1) = firsts L k ++ (if L k = k then [k] else []) := by
  have hm := mem_firsts L k (L k)
  by_cases h : L k = k
  · rw [if_pos h]
    have : L k ∉ firsts L k := fun hc => by
      obtain ⟨x, hx, e⟩ := hm.1 hc
      have := hle x; omega
    rw [firsts, if_neg this, h]
  · rw [if_neg h, List.append_nil]
    have : L k ∈ firsts L k := hm.2 ⟨L k, by have := hle k; omega, hid k⟩
    rw [firsts, if_pos this]
theorem members_none {L : Nat → Nat} (hle : ∀ x, L x ≤ x) (i : Nat) : members L i i = [] := by
  unfold members
  rw [List.map_eq_nil_iff, List.filter_eq_nil_iff]
  intro x hx h
  have h1 := List.mem_range.1 hx
  have h2 := hle x
  have h3 : L x = i := by simpa using h
  omega
def AllRefOK (w : World) (L : Nat → Nat) (n : Nat) (e : Ending) (w' : World) : Prop :=
  ∃ (O : Option Addr) (co : Nat) (rs : List RV), e = .returned (.slice O rs.length co) ∧ RowsIn w' w.heap.size O co rs ∧ rs.map RV.xs = groupsOf L n ∧ Below w.heap.size w w'
set_option maxHeartbeats 8000000 in
set_option maxRecDepth 100000 in
theorem refAll (A : Option Addr) (n c : Nat) (L : Nat → Nat) (w : World) (hA : Cells w w.heap.size A (intsF n fun x => (L x : Int))) (hn : n ≤ 60) (hle : ∀ x, L x ≤ x) (hid : ∀ x, L (L x) = L x) :
    Calls Tryd.prog 8 #[.slice A n c] w (AllRefOK w L n) := by
  have HA : Hid (Cells w w.heap.size A (ints ((List.range n).map fun x => (L x : Int)))) := by
    show Cells _ _ _ _
    rw [← intsF_ints]; exact hA
  have HLE := Lib.hid hle
  have HID := Lib.hid hid
  have hlen : ((List.range n).map fun x => (L x : Int)).length = n := by simp
  have HLEN := Lib.hid hlen
  have HB0 : Hid (Below w.heap.size w w) := Below.refl _ _
  clear hA hle hid hlen
  go_enter Tryd.func8, Tryd.ntmps8
  go_wp2
  go_loopw [4, 3] (fun i v wr => ∃ (k : Nat) (O : Option Addr) (m co : Nat) (rs : List RV), i = .int .i64 (k : Int) ∧ k ≤ n ∧ v = .slice O m co ∧ m ≤ k ∧ Hid (rs.length = m) ∧ Hid (RowsIn wr w.heap.size O co rs) ∧ Hid (rs.map RV.xs = (firsts L k).map (members L n)) ∧ Hid (Below w.heap.size w wr)) (fun i _ _ => n - (intOf i).toNat)
  case atStart => exact ⟨0, none, 0, 0, [], rfl, by omega, rfl, by omega, rfl, RowsIn.start _ _, rfl, HB0.out⟩
  case round =>
    clear HB0
    obtain ⟨k, O, m, co, rs, rfl, hk, rfl, hmk, HL, HRW, HX, HB⟩ := hrel
    by_cases hkn : k < n
    · have hkz : (k : Int) < n := by omega
      have hk0 : (0 : Int) ≤ k := by omega
      obtain ⟨b, off, y, rfl, hbb, hy, hcy⟩ := ints_at HA.out (show k < _ by rw [HLEN.out]; exact hkn)
      have hyl : y = (L k : Int) := by
        rw [List.getElem?_map, List.getElem?_range hkn] at hy
        simpa using hy.symm
      subst hyl
      rw [← HB.out.cell hbb] at hcy
      have HBB := Lib.hid hbb
      clear hy
      by_cases hlk : L k = k
      · have hne : ((L k : Int) != (k : Int)) = false := by simp [hlk]
        have HF : Hid (firsts L (k + 1) = firsts L k ++ [k]) := by show _ = _; rw [firsts_canon HLE.out HID.out, if_pos hlk]
        have HLK := Lib.hid hlk
        have HWQ : Hid (w.heap.size ≤ wr.heap.size) := HB.out.size
        generalize wr = wq at HRW HB hcy HWQ ⊢
        clear hlk
        go_wp2
        clear hcy
        go_loopw [6, 5] (fun i v wr => ∃ (j : Nat) (V : Option Addr) (ln cv : Nat), i = .int .i64 (j : Int) ∧ k ≤ j ∧ j ≤ n ∧ v = .slice V ln cv ∧ ln ≤ j ∧ Hid ((members L j k).length = ln) ∧ Hid (wr.ownsRow wq.heap.size 3 1 (.slice V ln cv) ln (ints (members L j k))) ∧ Hid (Below w.heap.size w wr) ∧ Hid (Below wq.heap.size wq wr)) (fun i _ _ => n - (intOf i).toNat)
        case atStart => exact ⟨k, none, 0, 0, rfl, by omega, by omega, rfl, by omega, by show _ = _; rw [members_none HLE.out]; rfl, by show World.ownsRow _ _ _ _ _ _ _; rw [members_none HLE.out]; exact World.ownsRow_nil _ _ _ _, HB.out, Below.refl _ _⟩
        case round =>
          clear HB
          obtain ⟨j, V, ln, cv, rfl, hkj, hj, rfl, hlnj, HML, HO, HB, HQ⟩ := hrel
          by_cases hjn : j < n
          · have hjz : (j : Int) < n := by omega
            have hj0 : (0 : Int) ≤ j := by omega
            obtain ⟨b', off', y, hbo, _, hy, hcy⟩ := ints_at HA.out (show j < _ by rw [HLEN.out]; exact hjn)
            simp only [Option.some.injEq, Addr.mk.injEq, and_true] at hbo
            obtain ⟨rfl, rfl⟩ := hbo
            have hyl : y = (L j : Int) := by
              rw [List.getElem?_map, List.getElem?_range hjn] at hy
              simpa using hy.symm
            subst hyl
            rw [← HB.out.cell HBB.out] at hcy
            clear hy
            by_cases hjk : L j = k
            · have hd : ((L j : Int) == (k : Int)) = true := by simp [hjk]
              have HMS : Hid (members L (j + 1) k = members L j k ++ [(j : Int)]) := by show _ = _; rw [members_succ, if_pos hjk]
              have hnew : ∀ i : Nat, (wr.alloc (.cells #[.int .i64 (j : Int)] 3)).cell? ⟨wr.heap.size, i, none⟩ = ([.int .i64 (j : Int)] : List Value)[i]? := fun i => (Row.new wr 3 #[.int .i64 (j : Int)]).cell i
              have HNEW := Lib.hid hnew
              have hsz := HB.out.size
              have hszq := HQ.out.size
              clear hnew hjk
              go_wp2_with (at_builtin; refine wp_push _ rfl (.tmp 32) (.tmp 34) 29 rfl wq.heap.size 3 1 8 _ Tryd.underlying29 info_int rfl (by omega) V ln cv (ints (members L j k)) rfl (HO.out.alloc _) wr.heap.size 1 [.int .i64 (j : Int)] rfl rfl (fun i u hu => (HNEW.out i).trans hu) (by intro u hu; simp at hu; subst hu; rfl) (by omega) (by omega) (by rw [World.size_alloc]; omega) ?_; intro g1 c1 w4 ho4 hb4 hg4 hgr4 hat4)
              have HO4 := Lib.hid ho4
              have HQ4 : Hid (Below wq.heap.size wq w4) := (HQ.out.alloc hszq _).trans hb4
              have HB4 : Hid (Below w.heap.size w w4) := (HB.out.alloc hsz _).trans (hb4.mono HWQ.out)
              clear ho4 hb4 hgr4 hat4
              go_roundw
              case rel =>
                refine ⟨j + 1, _, ln + 1, c1, by go_num, by omega, by omega, rfl, by omega, ?_, ?_, HB4.out, HQ4.out⟩
                · show _ = _
                  rw [HMS.out, List.length_append, HML.out]; rfl
                · show World.ownsRow _ _ _ _ _ _ _
                  rw [HMS.out, ints_append]; exact HO4.out
              case measure => simp [intOf]; omega
            · have hd : ((L j : Int) == (k : Int)) = false := by simp; omega
              have HMS : Hid (members L (j + 1) k = members L j k) := by show _ = _; rw [members_succ, if_neg hjk, List.append_nil]
              clear hjk
              go_wp2
              go_roundw
              case rel => exact ⟨j + 1, V, ln, cv, by go_num, by omega, by omega, rfl, by omega, by show _ = _; rw [HMS.out]; exact HML.out, by show World.ownsRow _ _ _ _ _ _ _; rw [HMS.out]; exact HO.out, HB.out, HQ.out⟩
              case measure => simp [intOf]; omega
          · have hjz : ¬ (j : Int) < n := by omega
            obtain rfl : j = n := by omega
            have HRW2 := Lib.hid (HRW.out.below HQ.out)
            have hlen := HL.out
            have hnew : ∀ i : Nat, (wr.alloc (.cells #[.slice V ln cv] 29)).cell? ⟨wr.heap.size, i, none⟩ = ([.slice V ln cv] : List Value)[i]? := fun i => (Row.new wr 29 #[.slice V ln cv]).cell i
            have HNEW := Lib.hid hnew
            have hown : (wr.alloc (.cells #[.slice V ln cv] 29)).ownsRow w.heap.size 29 1 (.slice O m co) m (rs.map RV.val) := by
              have := (HRW2.out.alloc (.cells #[.slice V ln cv] 29)).out
              rwa [hlen] at this
            have HOWN := Lib.hid hown
            have hszw := HB.out.size
            clear hnew hown hlen
            go_wp2_with (at_builtin; refine wp_push _ rfl (.tmp 36) (.tmp 38) 22 rfl w.heap.size 29 1 24 _ Tryd.underlying22 info_ints rfl (by omega) O m co (rs.map RV.val) rfl HOWN.out wr.heap.size 1 [.slice V ln cv] rfl rfl (fun i u hu => (HNEW.out i).trans hu) (by intro u hu; simp at hu; subst hu; rfl) (by omega) (by omega) (by rw [World.size_alloc]; omega) ?_; intro g1 c1 w4 ho4 hb4 hg4 hgr4 hat4)
            have hrow : (wr.alloc (.cells #[.slice V ln cv] 29)).ownsRow w.heap.size 3 1 (RV.val ⟨V, cv, members L j k⟩) (members L j k).length (ints (members L j k)) := by
              have h1 := own_lower (HO.out.alloc (.cells #[.slice V ln cv] 29)) HWQ.out
              unfold RV.val
              simp only
              rw [HML.out]; exact h1
            have hap : ∀ s ∈ rs, ∀ g, s.val.ownBlock = some g → (RV.val ⟨V, cv, members L j k⟩).ownBlock ≠ some g := fun s hs g e1 e2 => by
              have h1 := (HRW.out.rows s hs).lt g e1
              have h2 := (HO.out.lt g (by unfold RV.val at e2; simp only at e2; rw [HML.out] at e2; exact e2)).1
              omega
            have HRW4 : Hid (RowsIn w4 w.heap.size (some ⟨g1, 0, none⟩) c1 (rs ++ [⟨V, cv, members L j k⟩])) := by
              refine RowsIn.pushRow (HRW2.out.alloc (.cells #[.slice V ln cv] 29)) hrow hap ?_ ?_
              · unfold RV.val
                simp only
                rw [HML.out, HL.out]; exact ho4
              · rw [HL.out]; exact hgr4
            have HB4 : Hid (Below w.heap.size w w4) := (HB.out.alloc (by omega) _).trans hb4
            clear ho4 hb4 hgr4 hat4 hrow hap
            go_roundw
            case rel =>
              refine ⟨k + 1, _, m + 1, c1, _, by go_num, by omega, rfl, by omega, ?_, HRW4.out, ?_, HB4.out⟩
              · show _ = _
                rw [List.length_append, HL.out]; rfl
              · show _ = _
                rw [HF.out, List.map_append, List.map_append, HX.out]; rfl
            case measure => simp [intOf]; omega
      · have hne : ((L k : Int) != (k : Int)) = true := by simp; omega
        have HF : Hid (firsts L (k + 1) = firsts L k) := by show _ = _; rw [firsts_canon HLE.out HID.out, if_neg hlk, List.append_nil]
        clear hlk
        go_wp2
        go_roundw
        case rel => exact ⟨k + 1, O, m, co, rs, by go_num, by omega, rfl, by omega, HL.out, HRW.out, by show _ = _; rw [HF.out]; exact HX.out, HB.out⟩
        case measure => simp [intOf]; omega
    · have hkz : ¬ (k : Int) < n := by omega
      obtain rfl : k = n := by omega
      have hlm := HL.out
      subst hlm
      go_wp2
      go_ret
      exact ⟨O, co, rs, rfl, HRW.out, HX.out, HB.out⟩
end Go.Proofs.YtblblgmmgalmeaaDoor
