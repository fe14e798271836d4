/- The walk of the law on orders turned round. Conditions: lengths are such that slices can have. -/
import Derived.Test.YtbpggecholgdkaaFlowC
namespace Go.Proofs.Ytbpggecholgdkaa
open Go.RowKit

def swp (p : Int × Int) : Int × Int := (p.2, p.1)
theorem info_pair : (Try.prog.info? 30).map (fun i => (i.zero, i.size, i.bytes)) = some (some (.agg #[.int .i64 0, .int .i64 0]), 2, 16) := by kernel_rfl

theorem pairErr_of {l : List (Int × Int)} (h : l.length ≤ 16) (hp : ∀ p ∈ l, (0 ≤ p.1 ∧ p.1 ≤ 1000) ∧ (0 ≤ p.2 ∧ p.2 ≤ 1000)) : pairErr l = 0 := by
  unfold pairErr
  rw [if_neg (by omega)]
  clear h
  induction l with
  | nil => rfl
  | cons p l ih =>
    have h0 := hp p (by simp)
    simp only [pairErrFrom]
    rw [if_pos ⟨inB_true h0.1, inB_true h0.2⟩]
    exact ih fun q hq => hp q (by simp [hq])
theorem pat_swp (l : List (Int × Int)) (o : List Int) : pat (l.map swp) o.reverse = rev (pat l o) := by
  have e : ∀ i : Nat, (l.map swp).getD i (0, 0) = swp (l.getD i (0, 0)) := fun i => by
    simp only [List.getD, List.getElem?_map]
    cases l[i]? <;> rfl
  unfold pat rev
  rw [List.map_reverse, List.map_map]
  congr 1
  exact List.map_congr_left fun i _ => e _
theorem flowErr_swp {l : List (Int × Int)} {o : List Int} (h : flowErr l o = 0) : flowErr (l.map swp) o.reverse = 0 := by
  obtain ⟨h1, h2⟩ := flowErr_ok h
  obtain ⟨h3, h4⟩ := pairErr_ok h1
  have e : pairErr (l.map swp) = 0 := pairErr_of (by simpa using h3) (fun p hp => by
    obtain ⟨q, hq, rfl⟩ := List.mem_map.1 hp
    exact ⟨(h4 q hq).2, (h4 q hq).1⟩)
  unfold flowErr
  rw [if_pos e, List.length_map]
  exact (whole_iff _ _).2 h2.reverse
theorem done_swp {l : List (Int × Int)} {o : List Int} (h : flowErr l o = 0) : done (pat (l.map swp) o.reverse) = done (pat l o) := by
  rw [pat_swp, done_rev _ (pos_pat h)]

set_option maxHeartbeats 1000000 in
theorem flowTurnedW (A : Option Addr) (n c : Nat) (A' : Option Addr) (m c' : Nat) (l : List (Int × Int)) (o : List Int) (w : World) (hA : Cells w w.heap.size A (pairs l)) (hn : l.length = n) (hm : n * 16 ≤ 140737488351232)
    (_ : ∀ x ∈ l, (-9223372036854775808 ≤ x.1 ∧ x.1 ≤ 9223372036854775807) ∧ (-9223372036854775808 ≤ x.2 ∧ x.2 ≤ 9223372036854775807)) (hA' : Cells w w.heap.size A' (ints o)) (hn' : o.length = m) (hm' : m * 8 ≤ 140737488351232) (_ : ∀ x ∈ o, -9223372036854775808 ≤ x ∧ x ≤ 9223372036854775807) :
    Calls Try.prog 3 #[.slice A n c, .slice A' m c'] w fun e w' => e = .returned (.bool true) ∧ Below w.heap.size w w' := by
  by_cases he : flowErr l o = 0
  · have HE := Lib.hid he
    have HL := Lib.hid (pairErr_ok (flowErr_ok he).1)
    have HN := Lib.hid hn
    have hl16 : n ≤ 16 := by have := HL.out.1; omega
    clear he hn
    have c0 := Lib.hid (flowFact w)
    go_enter Try.func3, Try.ntmps3
    go_wp2_with fail
    refine c0.out.mono ?_
    rintro e w1 ⟨rfl, hb1⟩
    have c1 := Lib.hid (flowDone_ok A A' n c m c' l o w1 (hA.step hb1) HN.out (by omega) (hA'.step hb1) hn' (by omega) HE.out)
    clear c0
    go_wp2_with fail
    refine c1.out.mono ?_
    rintro e w2 ⟨rfl, hb2⟩
    have hb := hb1.trans (hb2.mono hb1.size)
    have hA2 := hA.below hb (Nat.le_refl _)
    have hA2' := hA'.below hb (Nat.le_refl _)
    clear hA hA' c1 hb1 hb2
    obtain ⟨d, HD⟩ : ∃ d, Hid (done (pat l o) = d) := ⟨_, rfl⟩
    rw [HD.out]
    go_wp2
    go_loopw [8, 9] (fun v i wr => ∃ (k : Nat) (V : Option Addr) (cv : Nat), k ≤ n ∧ i = .int .i64 k ∧ v = .slice V k cv ∧ wr.ownsRow w.heap.size 30 2 (.slice V k cv) k (pairs ((l.map swp).take k)) ∧ Below w.heap.size w2 wr) (fun _ i _ => n - (intOf i).toNat)
    case atStart => exact ⟨0, none, 0, Nat.zero_le _, rfl, rfl, World.ownsRow_nil _ _ _ _, Below.refl _ _⟩
    case round =>
      obtain ⟨k, V, cv, hk, rfl, rfl, hown, hbr⟩ := hrel
      by_cases hlt : k < n
      · have hlz : (k : Int) < n := by omega
        obtain ⟨b', off', p, q, rfl, hbb', hp, hc1, hc2⟩ := pairs_at hA2 (show k < l.length by rw [HN.out]; exact hlt)
        rw [← hbr.cell hbb'] at hc1 hc2
        have hT : Hid ((l.map swp).take (k + 1) = (l.map swp).take k ++ [(q, p)]) := take_at (by simp [hp, swp])
        clear hp hA2
        go_wp2_with fail
        have hnew := fun W : World => (Row.new W 30 #[.int .i64 q, .int .i64 p]).cell
        have hsz : w.heap.size ≤ wr.heap.size := Nat.le_trans hb.size hbr.size
        go_region_law (refine step_push _ rfl (.tmp 33) (.tmp 45) 22 rfl w.heap.size 30 2 16 _ Try.underlying22 info_pair rfl (by omega) V k cv _ rfl (hown.drew.alloc _) wr.heap.size 1 [.int .i64 q, .int .i64 p] rfl rfl (fun j u hu => (hnew _ j).trans hu) (by intro u hu; simp at hu; rcases hu with rfl | rfl <;> rfl) (by omega) (by omega) (by simp; omega) ?_; intro g1 c1 w3 hown3 hb3 hg3 hgr3)
        all_goals
          rw [show pairs ((l.map swp).take k) ++ [.int .i64 q, .int .i64 p] = pairs ((l.map swp).take (k + 1)) by rw [hT.out, pairs_append]; rfl] at hown3
          have hbr3 : Below w.heap.size w2 w3 := (hbr.drew.alloc (by simpa using hsz) _).trans hb3
          clear hown hnew hc1 hc2 hb3 hgr3
          go_wp2
          go_roundw
          case rel => exact ⟨k + 1, some ⟨g1, 0, none⟩, c1, by omega, by go_num, rfl, hown3, hbr3⟩
          case measure => simp [intOf]; omega
      · have hkn : k = n := by omega
        subst hkn
        have hlz : ¬ (k : Int) < k := by omega
        obtain ⟨w3, rfl⟩ : ∃ w3 : World, w3 = wr := ⟨_, rfl⟩
        rw [List.take_of_length_le (by rw [List.length_map, HN.out]; omega)] at hown
        have hA3' := hA2'.below hbr (Nat.le_refl _)
        have hcO := hown.own (by omega)
        have hb3 := hb.trans hbr
        clear hA2 hA2' hb hbr
        have hm0 : (m : Int) - 1 < 9223372036854775807 := by omega
        go_wp2
        go_loopw [10, 11] (fun v i wr => ∃ (j : Nat) (x : Int) (V : Option Addr) (cv : Nat), -1 ≤ x ∧ x + j ≤ (m : Int) - 1 ∧ (m : Int) - 1 ≤ x + j ∧ i = .int .i64 x ∧ v = .slice V j cv ∧ wr.ownsRow w3.heap.size 3 1 (.slice V j cv) j (ints (o.reverse.take j)) ∧ Below w3.heap.size w3 wr) (fun _ i _ => (intOf i + 1).toNat)
        case atStart => exact ⟨0, (m : Int) - 1, none, 0, by omega, by omega, by omega, by go_num, rfl, World.ownsRow_nil _ _ _ _, Below.refl _ _⟩
        case round =>
          obtain ⟨j, x, V2, cv2, hx1, hx2, hx3, rfl, rfl, hown2, hb4⟩ := hrel
          by_cases hlx : 0 ≤ x
          · obtain ⟨y, rfl⟩ : ∃ y : Nat, x = y := ⟨x.toNat, by omega⟩
            have hym : (y : Int) < m := by omega
            have hym' : y < m := by omega
            obtain ⟨b', off', z, rfl, hbb', hp, hc1⟩ := ints_at hA3' (show y < o.length by omega)
            rw [← hb4.cell (p := ⟨b', off' + y, none⟩) (by have := hb3.size; simp only; omega)] at hc1
            have hT : Hid (o.reverse.take (j + 1) = o.reverse.take j ++ [z]) := take_at (by
              rw [List.getElem?_reverse (by omega), show o.length - 1 - j = y by omega]; exact hp)
            have hnew := fun W : World => (Row.new W 3 #[.int .i64 z]).cell
            have hsz := hb4.size
            clear hp
            go_wp2_with (at_builtin; refine wp_push _ rfl (.tmp 54) (.tmp 59) 23 rfl w3.heap.size 3 1 8 _ Try.underlying23 info_int rfl (by omega) V2 j cv2 _ rfl (hown2.alloc _) wr.heap.size 1 [.int .i64 z] rfl rfl (fun j u hu => (hnew _ j).trans hu) (by intro u hu; simp at hu; subst hu; rfl) (by omega) (by omega) (by simp; omega) ?_; intro g2 c2 w4 hown4 hb5 hg4 hgr4)
            rw [show ints (o.reverse.take j) ++ [.int .i64 z] = ints (o.reverse.take (j + 1)) by rw [hT.out, ints_append]; rfl] at hown4
            have hb6 : Below w3.heap.size w3 w4 := (hb4.alloc hsz _).trans hb5
            clear hown2 hnew hc1 hb5 hgr4 hb4
            go_roundw
            case rel => exact ⟨j + 1, (y : Int) - 1, some ⟨g2, 0, none⟩, c2, by omega, by omega, by omega, by go_num, rfl, hown4, hb6⟩
            case measure => simp [intOf] <;> omega
          · have hjm : j = m := by omega
            subst hjm
            rw [List.take_of_length_le (by rw [List.length_reverse]; omega)] at hown2
            have c1 := Lib.hid (flowDone_ok V V2 k cv j cv2 (l.map swp) o.reverse wr (hcO.step hb4) (by rw [List.length_map]; exact HN.out) (by omega) (hown2.own (by omega)) (by rw [List.length_reverse]; exact hn') (by omega) (flowErr_swp HE.out))
            have hD : Hid (done (pat (l.map swp) o.reverse) = d) := (done_swp HE.out).trans HD.out
            clear hA3' hcO hn'
            go_wp2_with fail
            refine c1.out.mono ?_
            rintro e w5 ⟨rfl, hb5⟩
            rw [hD.out]
            go_wp2
            go_ret
            exact ⟨rfl, hb3.trans ((hb4.mono hb3.size).trans (hb5.mono (Nat.le_trans hb3.size hb4.size)))⟩
  · have HE := Lib.hid he
    clear he
    have c0 := Lib.hid (flowFact w)
    go_enter Try.func3, Try.ntmps3
    go_wp2_with fail
    refine c0.out.mono ?_
    rintro e w1 ⟨rfl, hb1⟩
    have c1 := Lib.hid (flowDone_bad A A' n c m c' l o w1 (hA.step hb1) hn (by omega) (hA'.step hb1) hn' (by omega) HE.out)
    clear c0 hn hn'
    go_wp2_with fail
    refine c1.out.mono ?_
    rintro e w2 ⟨rfl, hb2⟩
    go_wp2
    go_ret
    exact ⟨rfl, hb1.trans (hb2.mono hb1.size)⟩
end Go.Proofs.Ytbpggecholgdkaa
