/- The top's helpers: a small rule, has "abc" its sum; a knife that is fed while the pieces are kept. -/
import Derived.Test.YtcdbffgmgfblkaaDoorCutL
import Derived.Test.YtcdbffgmgfblkaaDoorCutF
import Derived.Test.YtcdbffgmgfblkaaDoorPolC
import Derived.Test.YtcdbffgmgfblkaaDoorApd
import Derived.Test.YtcdbffgmgfblkaaDoorShaL
import Derived.Test.YtcdbffgmgfblkaaDoorArr
namespace Go.Proofs.YtcdbffgmgfblkaaDoor
set_option linter.unusedVariables false
set_option linter.unusedSimpArgs false
open Go.RowKit

/-- The top's rule. -/
def topRule : Rl := ⟨64, 200, 5, 17349423945073011⟩
set_option maxHeartbeats 1000000 in
set_option maxRecDepth 100000 in
theorem rule_ok (w : World) : Calls Tryd.prog 34 #[] w fun e w' => e = .returned (ruleV topRule.least topRule.most topRule.bits topRule.m) ∧ Hid (Q w w') := by
  go_enter Tryd.func34, Tryd.ntmps34
  go_wp2
  exact bodyPost_ret (v := ruleV 64 200 5 17349423945073011) (by simp [results, Tryd.results34, go_sem, ruleV]) rfl ⟨rfl, Lib.hid ((Q.refl w).alloc _)⟩
theorem topRule_right : topRule.Right := ⟨by decide, by decide, by decide, by decide, by decide, by show 25 ≤ Pol.len 17349423945073011; rw [Pol.big_len]; omega⟩
theorem topRule_m : topRule.m ≤ 18446744073709551615 := by decide

set_option maxHeartbeats 8000000 in
set_option maxRecDepth 100000 in
theorem stands_ok (w : World) (hG : Glob w) : Calls Tryd.prog 35 #[] w fun e w' => e = .returned (.bool true) ∧ Hid (Q w w') := by
  have kc := fun (w : World) (C : Array Value) (n c : Nat) => Lib.run_convert_bytes_const (P := Tryd.prog) w 22 5 C n c Tryd.underlying22 Tryd.underlying5
  have k1 := kc w #[.int .u8 97, .int .u8 98, .int .u8 99] 3 3
  have habc : Hid (Calls Tryd.prog 18 #[.slice (some ⟨w.heap.size + 1, 0, none⟩) 1 1] ((w.alloc (.cells #[.int .u8 97, .int .u8 98, .int .u8 99] 5 (3, 4))).alloc (.cells #[.slice (some ⟨w.heap.size, 0, none⟩) 3 3] 22)) fun e w'' => e = .returned (.agg (arrO [186, 120, 22, 191, 143, 1, 207, 234, 65, 65, 64, 222, 93, 174, 34, 35, 176, 3, 97, 163, 150, 23, 122, 156, 180, 16, 255, 97, 242, 0, 21, 173])) ∧ Hid (Q w w'')) := by
    have q1 := (Q.refl w).alloc (.cells #[.int .u8 97, .int .u8 98, .int .u8 99] 5 (3, 4))
    have q2 := q1.alloc (.cells #[.slice (some ⟨w.heap.size, 0, none⟩) 3 3] 22)
    have s1 : SeesP (w.alloc (.cells #[.int .u8 97, .int .u8 98, .int .u8 99] 5 (3, 4))) (· < (w.alloc (.cells #[.int .u8 97, .int .u8 98, .int .u8 99] 5 (3, 4))).heap.size) (some ⟨w.heap.size, 0, none⟩) ([97, 98, 99].map B8) := by
      rw [alloc_size]; exact sees_marked w [.int .u8 97, .int .u8 98, .int .u8 99] _ _
    have s2 := new1 (w.alloc (.cells #[.int .u8 97, .int .u8 98, .int .u8 99] 5 (3, 4))) [.slice (some ⟨w.heap.size, 0, none⟩) 3 3] 22
    rw [alloc_size w] at s2
    have hk := of_any (some ⟨w.heap.size + 1, 0, none⟩) 1 1 [(.slice (some ⟨w.heap.size, 0, none⟩) 3 3, [97, 98, 99])] _ (hG.q q2) s2 (PartsB.on (part_all s1 rfl (by simp)) ((Q.refl _).alloc _)) rfl (by simp [partsL]) (by omega)
    refine hk.mono fun e w'' h => ⟨?_, q2.trans' h.2.out⟩
    rw [h.1, show partsL [(.slice (some ⟨w.heap.size, 0, none⟩) 3 3, [97, 98, 99])] = [97, 98, 99] from rfl, sha_abc]
  clear hG kc
  go_enter Tryd.func35, Tryd.ntmps35
  go_wp2_with (first
    | (go_at_call 18; go_loud ((with_reducible refine Calls.mono habc.out ?_); rintro e w1 ⟨rfl, H1⟩))
    | ((with_reducible refine gate 1 rfl ?_); go_loud (refine wpList_alloc_row rfl 28 rfl _ (zero32 _) 32 _ rfl zer32_get ?_; intro w2 hr2 hx2; have H2 := Lib.hid (And.intro hr2 hx2); clear hr2 hx2))
    | (refine wpList_store_all rfl 28 (.tmp 1) (.tmp 5) rfl w1.heap.size rfl _ rfl 32 info32b _ (arrO_agg _) (fun i _ => rfl) 28 _ H2.out.1 ?_; intro w3 hr3 hp3; have H3 := Lib.hid (And.intro hr3 hp3); have c0 := hr3.cell (i := 0) (by omega); have c1 := hr3.cell (i := 1) (by omega); have c31 := hr3.cell (i := 31) (by omega); simp only [arrF, List.getD_cons_zero, List.getD_cons_succ, B8] at c0 c1 c31; clear hr3 hp3))
  go_ret
  exact ⟨rfl, H3.out.2.q (H2.out.2.q H1.out) (H1.out.size)⟩
end Go.Proofs.YtcdbffgmgfblkaaDoor
