/- As wp_region_factsL, where edges that do not bind may lead backwards (x, y = f(..) in one statement). -/
import Derived.Test.YtffenfhbiapefaaRegy
namespace Go.Proofs.Ytffenfhbiapefaa
set_option linter.unusedVariables false
set_option linter.unusedSimpArgs false
open Go.RowKit

theorem steps_C {P : Program} {md : Region.Mode} {ops : Array Oper} {F : Nat → Value → World → Prop} {w0 : World} {a0 : Act} : ∀ {l : List Oper} {k : Nat}, StepsOkG P md ops F w0 a0 l k →
    StepsY (S := Unit) P md ops (fun _ _ w => Below w0.heap.size w0 w) (fun i u _ w => F i u w) (fun _ _ _ _ => False) (fun _ => none) a0 l k
  | [], _, _ => trivial
  | o :: l, k, h => ⟨fun a w v c hj _ hfr hd => h.1 a w hj hfr hd, steps_C h.2⟩
theorem wp_region_factsC {P : Program} {id : Nat} {ops : Array Oper} {Q : Exit → Act → World → Prop} {a0 : Act} {w : World} (hm : P.follows .mixedOrders = true) (hB : regionC .any ops a0.tmps.size = true)
    (F : Nat → Value → World → Prop) (hF : ∀ i v w w', F i v w → Below w.heap.size w w' → F i v w')
    (hs : StepsOkG P .any ops F w a0 ops.toList 0)
    (hend : ∀ (us : Nat → Value) w', Below w.heap.size w w' → (∀ (i : Nat) o d, ops[i]? = some o → o.dst = some d → F i (us d) w') → Q .normal { tmps := fillSlots us ops.toList a0.tmps, defers := a0.defers } w') : (Code.region id ops true).wp P Q a0 w :=
  wp_region_factsY (S := Unit) hm hB (fun _ _ w' => Below w.heap.size w w') (fun i u _ w => F i u w) (fun _ _ _ _ => False) (fun _ => none) (by simp [chainB]) 0 (by simp [countB])
    (fun _ _ w1 w2 h hq => Below.trans h (hq.mono h.size)) (fun i u _ w w' h hq => hF i u w w' h hq) (fun _ _ _ _ _ _ _ h => h.elim) () ((Below.refl _ _).drew) (steps_C hs) (fun us w' _ hj hf => hend us w' hj fun i o d hi hd => hf i o d hi hd)
end Go.Proofs.Ytffenfhbiapefaa
