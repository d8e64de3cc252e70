/- The document's SHA-256: words, fold. -/
import Derived.Test.YtcdbffgmgfblkaaDoorShaO
import Derived.Test.YtcdbffgmgfblkaaDoorApd
namespace Go.Proofs.YtcdbffgmgfblkaaDoor
set_option linter.unusedVariables false
set_option linter.unusedSimpArgs false
open Go.RowKit

set_option maxHeartbeats 4000000 in
set_option maxRecDepth 100000 in
theorem words_ok (w : World) : Calls Tryd.prog 50 #[] w fun e w' => e = .returned (.slice (some ⟨w.heap.size, 0, none⟩) 64 64) ∧ Hid (Q w w' ∧ w'.rowIs w.heap.size 77 64 (fun i => W32 (K256.getD i 0))) := by
  go_enter Tryd.func50, Tryd.ntmps50
  go_wp2_with fail
  go_ret
  refine ⟨rfl, (Q.refl w).alloc _, ?_⟩
  exact World.rowIs_alloc w (K256.map W32).toArray _ _ (fun i hi => by
    have hi : i < K256.length := by simpa using hi
    rw [List.getElem?_toArray, List.getElem?_map, List.getD_eq_getElem?_getD, List.getElem?_eq_getElem hi]; rfl)
end Go.Proofs.YtcdbffgmgfblkaaDoor
