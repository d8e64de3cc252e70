/- The walk through nodes: has a link its bytes? -/
import Derived.Test.YtffenfhbiapefaaEnc
namespace Go.Proofs.Ytffenfhbiapefaa
set_option linter.unusedVariables false
set_option linter.unusedSimpArgs false
open Go.RowKit

/-- The chapter's link. -/
def lnk : Nd := ⟨⟨#[108]⟩, 2, 1, 2, 0, ⟨#[116]⟩, [], noId⟩
theorem lnk_good : checkN lnk = 0 := by decide +kernel
theorem lnk_bytes : encN [lnk] = ([72, 89, 110, 1, 1, 108, 2, 1, 2, 1, 116], 0) := by
  have e : encNd lnk = [1, 108, 2, 1, 2, 1, 116] := by
    unfold encNd textL numZ
    rw [numL_small (n := lnk.name.size) (by decide), numL_small (n := lnk.kind.toNat) (by decide), numL_small (n := lnk.mode.toNat) (by decide), numL_small (n := lnk.time.toNat) (by decide), if_neg (by decide), if_neg (by decide), numL_small (n := lnk.target.size) (by decide)]
    rfl
  unfold encN
  rw [if_neg (by decide), if_neg (by rw [show firstErr [lnk] = 0 from firstErr_none _ (fun n hn => by rw [List.mem_singleton.1 hn]; exact lnk_good)]; simp), if_pos (by rfl), List.flatMap_cons, e, numL_small (by decide)]
  rfl
theorem lnk_str : strB [72, 89, 110, 1, 1, 108, 2, 1, 2, 1, 116] = ⟨#[72, 89, 110, 1, 1, 108, 2, 1, 2, 1, 116]⟩ := by rfl
/-- A row of one node that was just made. -/
theorem nodesAt_new (w : World) (n : Nd) (A : Option Addr) (pn pc : Nat) (t : TypeId) (hp : SeesP w (· < w.heap.size) A (n.ids.flatMap gL)) (hf : NdFit n pn ∧ pn ≤ 9223372036854775807 ∧ (∀ i ∈ n.ids, i.length = 32 ∧ ∀ x ∈ i, x ≤ 255) ∧ ∀ x ∈ n.tree, x ≤ 255) :
    NodesAt (w.alloc (.cells (ndL n A pn pc).toArray t)) (some ⟨w.heap.size, 0, none⟩) [⟨n, A, pn, pc⟩] := by
  refine ⟨?_, fun z hz => ?_, fun z hz => ?_⟩
  · have h := (SeesP.new w (ndL n A pn pc) t).more (ok' := (· < (w.alloc (.cells (ndL n A pn pc).toArray t)).heap.size)) (fun b hb => by simpa using hb)
    simpa [ndsL] using h
  · obtain rfl := List.mem_singleton.1 hz
    exact SeesP.on hp ((Q.refl w).alloc _)
  · obtain rfl := List.mem_singleton.1 hz
    exact hf
set_option maxHeartbeats 16000000 in
set_option maxRecDepth 100000 in
theorem nodes_ok (w : World) : Calls Try.prog 11 #[] w fun e w' => e = .returned (.bool true) ∧ Hid (Q w w') := by
  have HE : Hid (∀ t, Calls Try.prog 18 #[.slice (some ⟨w.heap.size, 0, none⟩) 1 1] (w.alloc (.cells (ndL lnk none 0 0).toArray t)) (fun e_ w' => ∃ A c, e_ = .returned (.tuple #[.slice A 11 c, .int .i64 0]) ∧ Hid (w'.ownsRow (w.alloc (.cells (ndL lnk none 0 0).toArray t)).heap.size 5 1 (.slice A 11 c) 11 ([72, 89, 110, 1, 1, 108, 2, 1, 2, 1, 116].map B8) ∧ Q w w'))) := Lib.hid fun t => by
    have h := encode_ok (some ⟨w.heap.size, 0, none⟩) 1 1 [⟨lnk, none, 0, 0⟩] _ rfl (by decide) (nodesAt_new w lnk none 0 0 t (SeesP.nil _ _ _) ⟨⟨rfl, by decide, by decide, by decide, by decide⟩, by decide, by simp [lnk], by decide⟩) (by simp)
    refine h.mono fun e_ w' ⟨A, c, n, he, hh⟩ => ?_
    rw [show [(⟨lnk, none, 0, 0⟩ : NdIn)].map (·.n) = [lnk] from rfl, lnk_bytes] at he hh
    obtain ⟨h1, h2, h3, _⟩ := hh.out
    obtain rfl : 11 = n := h1
    exact ⟨A, c, he, Lib.hid ⟨h2, ((Q.refl w).alloc _).step h3⟩⟩
  go_enter Try.func11, Try.ntmps11
  go_wp2_with (first
    | ((with_reducible refine gate 5 rfl ?_); go_loud (refine wpList_val rfl (run_row_node (.tmp 4) rfl lnk none 0 0 rfl _) ?_))
    | (go_at_call 18; go_loud ((with_reducible refine (HE.out _).mono ?_); rintro e5 w5 ⟨A, c, rfl, H5⟩; have hk := run_convert_sees (P := Try.prog) w5 40 9 5 Try.underlying40 Try.underlying5 Try.underlying9 _ A 11 c [72, 89, 110, 1, 1, 108, 2, 1, 2, 1, 116] rfl (sees_own H5.out.1); rw [lnk_str] at hk)))
  go_ret
  exact ⟨rfl, Lib.hid H5.out.2⟩
end Go.Proofs.Ytffenfhbiapefaa
