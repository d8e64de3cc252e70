/- Making a store. -/
import Derived.Test.YtffpaeljnfmmiaaShf
import Derived.Maps.OwnOps
import Derived.Carry
namespace Go.Proofs.Ytffpaeljnfmmiaa
set_option linter.unusedVariables false
set_option linter.unusedSimpArgs false
open Go.RowKit Go.Maps

set_option maxHeartbeats 4000000 in
set_option maxRecDepth 100000 in
theorem newShelf_ok (room : Int) (w : World) (h0 : 0 ≤ room) (h1 : room ≤ 1073741824) :
    Calls Try.prog 5 #[.int .i64 room] w fun e w' => ∃ s mb, e = .returned (.tuple #[.pointer (some ⟨s, 0, none⟩), .int .i64 0]) ∧ ShHas w' s mb 0 (.map []) ⟨-1, false, 0⟩ room ∧ Q w w' ∧ w.heap.size ≤ s ∧ w.heap.size ≤ mb := by
  have hmm := @run_makeMap Try.prog
  have d1 : decide (room < 0) = false := decide_eq_false (by omega)
  have d2 : decide (1073741824 < room) = false := decide_eq_false (by omega)
  have HM := Lib.hid (World.ownsMap_made w Try.prog 9 heldR)
  go_enter Try.func5, Try.ntmps5
  go_wp2_with fail
  go_ret2
  refine ⟨w.heap.size + 1, w.heap.size, rfl, ⟨?_, (HM.out).alloc _, by omega⟩, ((Q.refl _).alloc _).alloc _, by omega, by omega⟩
  have h := World.rowIs_alloc (w.alloc (.map #[] 0)) #[.map (some w.heap.size), .int .i64 (-1), .bool false, .int .i64 0, .int .i64 room] 47 (shF w.heap.size ⟨-1, false, 0⟩ room) (fun i hi => ?_)
  · simpa using h
  · match i, hi with
    | 0, _ => rfl
    | 1, _ => rfl
    | 2, _ => rfl
    | 3, _ => rfl
    | 4, _ => rfl
end Go.Proofs.Ytffpaeljnfmmiaa
