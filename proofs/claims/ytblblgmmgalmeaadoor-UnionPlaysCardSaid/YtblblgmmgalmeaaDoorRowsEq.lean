/- What ricksteadsame.Rows answers: are two lists of lists of numbers the same. Conditions: lengths are such that slices can have. -/
import Derived.Test.YtblblgmmgalmeaaDoorInts
import Derived.Test.YtblblgmmgalmeaaDoorRowsMem
namespace Go.Proofs.YtblblgmmgalmeaaDoor
open Go.RowKit

/-- rows of numbers that can be read behind a place -/
structure RowsAt (w : World) (B : Nat) (A : Option Addr) (rs : List RV) : Prop where
  heads : Cells w B A (rs.map RV.val)
  rows : ∀ r ∈ rs, Cells w B r.at_ (ints r.xs)
theorem RowsAt.keep {w w' : World} {B : Nat} {A : Option Addr} {rs : List RV} (h : RowsAt w B A rs) (hk : ∀ p : Addr, p.block < B → w'.cell? p = w.cell? p) : RowsAt w' B A rs := ⟨h.heads.keep hk, fun r hr => (h.rows r hr).keep hk⟩
theorem RowsAt.more {w : World} {B B' : Nat} {A : Option Addr} {rs : List RV} (h : RowsAt w B A rs) (hB : B ≤ B') : RowsAt w B' A rs := ⟨h.heads.more hB, fun r hr => (h.rows r hr).more hB⟩
theorem RowsAt.below {w w' : World} {B B' : Nat} {A : Option Addr} {rs : List RV} (h : RowsAt w B A rs) (hb : Below B' w w') (hB : B ≤ B') : RowsAt w' B A rs := h.keep fun _ hp => hb.cell (by omega)
theorem RowsAt.step {w w' : World} {A : Option Addr} {rs : List RV} (h : RowsAt w w.heap.size A rs) (hb : Below w.heap.size w w') : RowsAt w' w'.heap.size A rs := (h.below hb (Nat.le_refl _)).more hb.size
theorem RowsIn.reads {w : World} {base co : Nat} {O : Option Addr} {rs : List RV} (h : RowsIn w base O co rs) : RowsAt w w.heap.size O rs := ⟨h.out.own (by omega), fun r hr => (h.rows r hr).own (by omega)⟩
theorem RowsAt.at_k {w : World} {B k : Nat} {A : Option Addr} {rs : List RV} (h : RowsAt w B A rs) (hk : k < rs.length) :
    ∃ b off r, A = some ⟨b, off, none⟩ ∧ b < B ∧ rs[k]? = some r ∧ w.cell? ⟨b, off + k, none⟩ = some (.slice r.at_ r.xs.length r.cap) ∧ Cells w B r.at_ (ints r.xs) := by
  obtain ⟨b, off, e, hb, hc⟩ := h.heads (by simp; omega)
  exact ⟨b, off, rs[k], e, hb, List.getElem?_eq_getElem hk, hc k _ (by simp [hk, RV.val]), h.rows _ (List.getElem_mem hk)⟩

def eqR (xs ys : List (List Int)) : Bool := decide (xs = ys)
theorem eqR_true {xs ys : List (List Int)} (h : xs = ys) : eqR xs ys = true := decide_eq_true h
theorem eqR_false {xs ys : List (List Int)} (h : xs ≠ ys) : eqR xs ys = false := decide_eq_false h
theorem quiet_d {P : Program} {f : FuncId} {args : Array Value} {w : World} {n : Nat} {v : Value} (h : Calls P f args (w.drewN n) fun e w' => e = .returned v ∧ ∃ q, w' = (w.drewN n).drewN q) :
    Calls P f args (w.drewN n) fun e w'' => e = .returned v ∧ ∃ m, w'' = w.drewN m := h.mono fun _ _ ⟨he, q, hq⟩ => ⟨he, n + q, by rw [hq, World.drewN_drewN]⟩

set_option maxHeartbeats 1000000 in
theorem rows_same (A B : Option Addr) (n c m c' : Nat) (rs ss : List RV) (w : World) (hA : RowsAt w w.heap.size A rs) (hn : rs.length = n) (hm : n ≤ 9223372036854775807) (hB : RowsAt w w.heap.size B ss) (hn' : ss.length = m)
    (hr : ∀ r ∈ rs, r.xs.length ≤ 9223372036854775807) :
    Calls Tryd.prog 10 #[.slice A n c, .slice B m c'] w fun e w' => e = .returned (.bool (eqR (rs.map RV.xs) (ss.map RV.xs))) ∧ ∃ q, w' = w.drewN q := by
  by_cases hnm : n = m
  · subst hnm
    have HN := Lib.hid hn
    have HN' := Lib.hid hn'
    have HA := Lib.hid hA
    have HB := Lib.hid hB
    have HR := Lib.hid hr
    clear hn hn' hA hB hr
    go_enter Tryd.func10, Tryd.ntmps10
    go_wp2
    go_loopw [5] (fun i wr => ∃ (k : Nat), k ≤ n ∧ i = .int .i64 k ∧ Hid (∃ q, wr = w.drewN q) ∧ Hid ((rs.map RV.xs).take k = (ss.map RV.xs).take k)) (fun i _ => n - (intOf i).toNat)
    case atStart => exact ⟨0, Nat.zero_le _, rfl, ⟨0, rfl⟩, rfl⟩
    case round =>
      obtain ⟨k, hk, rfl, HW, HT⟩ := hrel
      by_cases hlt : k < n
      · have hlz : (k : Int) < n := by omega
        have hAr : RowsAt wr wr.heap.size A rs := by obtain ⟨q, rfl⟩ := HW.out; exact HA.out.keep fun _ _ => rfl
        have hBr : RowsAt wr wr.heap.size B ss := by obtain ⟨q, rfl⟩ := HW.out; exact HB.out.keep fun _ _ => rfl
        obtain ⟨b, off, r, rfl, _, hx, hc, hxs⟩ := hAr.at_k (show k < rs.length by rw [HN.out]; exact hlt)
        obtain ⟨b', off', s, rfl, _, hy, hc', hys⟩ := hBr.at_k (show k < ss.length by rw [HN'.out]; exact hlt)
        have HX := Lib.hid (show (rs.map RV.xs)[k]? = some r.xs by simp [hx])
        have HY := Lib.hid (show (ss.map RV.xs)[k]? = some s.xs by simp [hy])
        have hrl := HR.out r (List.mem_of_getElem? hx)
        have cc := fun q => Lib.hid (ints_same r.at_ s.at_ r.xs.length r.cap s.xs.length s.cap r.xs s.xs (wr.drewN q) (hxs.keep fun _ _ => rfl) rfl hrl (hys.keep fun _ _ => rfl) rfl)
        clear hx hy hAr hBr hxs hys
        by_cases hxy : r.xs = s.xs
        · have HS : Hid ((rs.map RV.xs).take (k + 1) = (ss.map RV.xs).take (k + 1)) := by
            show _ = _
            rw [take_at HX.out, take_at HY.out, HT.out, hxy]
          have hE : eqB r.xs s.xs = true := eqB_true hxy
          clear hxy hrl
          go_wp2
          go_quiet ((go_at_call 16; exact quiet_d (cc _).out))
          go_wp2
          go_roundw
          case rel => exact ⟨k + 1, by omega, by go_num, by obtain ⟨q, rfl⟩ := HW.out; exact ⟨_, World.drewN_drewN _ _ _⟩, HS⟩
          case measure => simp [intOf]; omega
        · have hE : eqB r.xs s.xs = false := eqB_false hxy
          have HE : Hid (eqR (rs.map RV.xs) (ss.map RV.xs) = false) := eqR_false fun e => hxy (by
            have h1 := HX.out
            rw [e, HY.out] at h1
            exact (Option.some.inj h1).symm)
          clear hxy hrl
          go_wp2
          go_quiet ((go_at_call 16; exact quiet_d (cc _).out))
          go_wp2
          go_ret
          exact ⟨ret_bool HE.out.symm, by obtain ⟨q, rfl⟩ := HW.out; exact ⟨_, World.drewN_drewN _ _ _⟩⟩
      · have hkn : k = n := by omega
        subst hkn
        have hlz : ¬ (k : Int) < k := by omega
        have HE : Hid (eqR (rs.map RV.xs) (ss.map RV.xs) = true) := eqR_true (by
          have := HT.out
          rwa [List.take_of_length_le (by rw [List.length_map, HN.out]; omega), List.take_of_length_le (by rw [List.length_map, HN'.out]; omega)] at this)
        go_wp2
        go_ret
        exact ⟨ret_bool HE.out.symm, HW.out⟩
  · have HE : Hid (eqR (rs.map RV.xs) (ss.map RV.xs) = false) := eqR_false fun e => hnm (by have := congrArg List.length e; simpa [hn, hn'] using this)
    have hz : ((n : Int) != m) = true := by rw [bne_iff_ne]; omega
    clear hn hn' hA hB hr
    go_enter Tryd.func10, Tryd.ntmps10
    go_wp2
    go_ret
    exact ⟨ret_bool HE.out.symm, 0, rfl⟩
end Go.Proofs.YtblblgmmgalmeaaDoor
