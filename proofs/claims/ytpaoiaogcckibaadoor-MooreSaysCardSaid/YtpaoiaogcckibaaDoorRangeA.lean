/- The law of a range over a function, what the rounds find being told of the frame that the loop begins in. Conditions: none. -/
import Derived.Test.YtpaoiaogcckibaaDoorRange
namespace Go.Proofs.YtpaoiaogcckibaaDoor
open Go.RowKit
theorem wp_rangeA {P : Program} {γ : Type} {g : Operand} {ps : Array Tmp} {assign body : Code} {Q : Exit → Act → World → Prop} {a : Act} {w : World} {gf : Nat} {la : Array Value} (hg : a.eval g = .func (.func gf) la #[])
    (eg : ∀ args w, (callFunc gf args).run P w = .ok (.enter gf args) w) {encs : γ → Array Value} (hps : ∀ x, (encs x).size = ps.size)
    (I : Nat → World → Prop) (G : Nat → γ → World → Prop) (Fin : World → Prop) (Ix : Code → World → Prop) (hseq : IterK P gf la encs I G Fin)
    (hI : OwnFrom w.heap.size I) (hFin : OwnFrom w.heap.size fun (_ : Unit) W => Fin W) (hIx : ∀ c, OwnFrom w.heap.size fun (_ : Unit) W => Ix c W) (m0 : Nat) (h0 : I m0 w)
    (Ax : Act → Nat → γ → Act → World → Prop) (hAx : ∀ m x a', OwnFrom w.heap.size fun (_ : Unit) W => Ax a m x a' W)
    (hassign : ∀ (l m : Nat) (x : γ) (W : World) (K : Act → World → Prop), G m x W → (∀ a' W', KeepsFrom w.heap.size W W' → Ax a m x a' W' → K a' W') →
      assign.wpIn (Fence.wide.inRound l) 1 P (Exit.then K (fun _ _ _ => False)) { tmps := (ps.zip (encs x)).foldl (fun t (p, v) => t.setIfInBounds p v) a.tmps, defers := [] } W)
    (hbody : ∀ (l m : Nat) (x : γ) (a' : Act) (W : World), Ax a m x a' W → body.wpIn (Fence.wide.inRound l) 1 P (roundEnds w.heap.size I Ix m W) a' W)
    (hdone : ∀ (D : Nat) (W : World), w.heap.size ≤ D → Fin W → W.heap[D]? = some (.deferred (some [])) → Q .normal { a with defers := { target := .collected D, args := #[] } :: a.defers } W)
    (hstop : ∀ (D : Nat) (c : Code) (W : World), w.heap.size ≤ D → Ix c W → W.heap[D]? = some (.deferred (some [])) → c.wp P Q { a with defers := { target := .collected D, args := #[] } :: a.defers } W) :
    (Code.rangeFunc g ps assign body).wp P Q a w :=
  wp_range hg eg hps I G Fin Ix hseq hI hFin hIx m0 h0 (Ax a) hAx hassign hbody hdone hstop
end Go.Proofs.YtpaoiaogcckibaaDoor
