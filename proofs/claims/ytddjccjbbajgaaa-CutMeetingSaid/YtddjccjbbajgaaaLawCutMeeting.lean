/- The law CutMeeting holds: whatever the input, the call returns true and leaves its arguments as they were. No condition. (The frame is the guide's template; the walk is in YtddjccjbbajgaaaCutN.) -/
import Derived.Test.YtddjccjbbajgaaaRows
import Derived.Test.YtddjccjbbajgaaaCutN
import Derived.WalkKit
import Derived.ProofKit
import Derived.OpenShut
import Derived.ShutString
import Derived.ChangeOld
import Derived.Below
import Derived.SizedLaws
import Derived.Test.YtddjccjbbajgaaaOpn
namespace Go.Proofs.Ytddjccjbbajgaaa.cutMeeting
open Go.ChangeShapes Go.WideShapes Go.ChangeAt Go.RowKit
open Go.ChangeMaps (open_string shut_string)
set_option linter.unusedVariables false

theorem own : ownKnob Try.prog.godebug = none := by kernel_rfl
theorem laidOut : laidOutB Try.prog = true := by kernel_rfl
set_option maxRecDepth 100000 in
theorem lifted (os : Os) (started : os.Started) (H : Type) (enc : TypeId × Value → H) :
    ReturnsInHanded {} Try.checked os 7 .any (Rows.cutMeetingSpec.pre6 enc Try.prog Try.f7 Rows.cutMeetingRow.domain false) (Rows.cutMeetingSpec.post enc Try.prog Try.f7 false true false false) := by
  refine returnsInHanded_of_change (C := Try.checked) own started (by kernel_rfl) Try.func7
    (ChangeSpec.witness6 (enc := enc) (C := Try.checked) false ⟨#[], #[.agg #[.int .i64 0, .int .i64 0, .int .i64 0, .int .u64 0, .slice none 0 0, .slice none 0 0, .slice none 0 0]], []⟩ 8 (by kernel_rfl) (by kernel_rfl) (by kernel_rfl) (by kernel_rfl)) ?_
  intro W base args ds gs before hval0 hW hcnd _
  have hval : ∀ (j : Nat) t v, Try.f7.params[j]? = some t → args[j]? = some v → Value.okWide Try.prog W .any base t v := hval0
  have hW' := hW
  obtain ⟨p, q, hA0, hV, rfl, hfz, hnd⟩ := hW
  have hA : DataW.TrodAll enc Try.prog W 0 (fun _ => true) true Try.f7.params.toList args.toList ds p := hA0
  rw [Try.params7] at hA hval
  obtain ⟨v0, vs0, d0, ds0, p0, q0, hargs, rfl, rfl, h0, r0⟩ := trodAll_cons hA
  obtain ⟨rfl, rfl, rfl⟩ := trodAll_nil r0
  obtain rfl : args = #[v0] := by cases args; simp_all
  obtain ⟨rfl, rfl⟩ := trodVars_none hV
  have k0 := h0
  have lt0 : ∀ x ∈ p0, x.block < W.heap.size := by obtain ⟨m, hm⟩ := k0; exact DataW.trod_lt m _ _ _ hm
  obtain ⟨v0_0, v0_1, v0_2, v0_3, v0_4, v0_5, v0_6, y0_0, y0_1, y0_2, y0_3, y0_4, y0_5, y0_6, n0, m0, rfl, t0_0, t0_1, t0_2, t0_3, t0_4, t0_5, t0_6⟩ := open_4_111 Try.underlying52 Try.underlying24 (by and_intros <;> kernel_rfl) (by and_intros <;> kernel_rfl) (by kernel_rfl) (hval 0 52 v0 rfl rfl) h0
  obtain ⟨a0_0, rfl, w0_0⟩ := int_of_trod Try.underlying3 t0_0
  obtain ⟨a0_1, rfl, w0_1⟩ := int_of_trod Try.underlying3 t0_1
  obtain ⟨a0_2, rfl, w0_2⟩ := int_of_trod Try.underlying3 t0_2
  obtain ⟨a0_3, rfl, w0_3⟩ := int_of_trod Try.underlying22 t0_3
  obtain ⟨a0_4, n0_4, c0_4, z0_4, rfl, w0_4⟩ := row_of_trod Try.underlying25 Try.underlying5 (by kernel_rfl) t0_4
  obtain ⟨a0_5, n0_5, c0_5, z0_5, rfl, w0_5⟩ := row_of_trod Try.underlying25 Try.underlying5 (by kernel_rfl) t0_5
  obtain ⟨a0_6, n0_6, c0_6, z0_6, rfl, w0_6⟩ := row_of_trod Try.underlying25 Try.underlying5 (by kernel_rfl) t0_6
  clear hA0 hval0
  refine (cutMeeting_true a0_0 w0_0 a0_1 w0_1 a0_2 w0_2 a0_3 w0_3 a0_4 n0_4 c0_4 z0_4 a0_5 n0_5 c0_5 z0_5 a0_6 n0_6 c0_6 z0_6 W w0_4 w0_5 w0_6).mono fun e W' ⟨he, bel⟩ => ?_
  subst he
  exact ⟨_, rfl, _, _, _, [], _, [], hW', trodAll_mk1 (shut_bool Try.underlying4 _), (trodAll_cons_mk (Below.trod laidOut (by kernel_rfl) (of_decide_eq_true (by kernel_rfl)) k0 bel lt0) trodAll_mk0), rfl, bel.frame _, fun h => by cases h⟩

theorem over : Rows.cutMeetingRow.holds Try.pinned (OpenSpec.ofChange Rows.cutMeetingSpec) :=
  OpenClaim.holds_of_wide 7 Try.f7 rfl rfl rfl rfl rfl rfl rfl ⟨rfl, rfl, rfl, rfl, rfl⟩ rfl rfl rfl rfl rfl (by kernel_rfl) Try.func7 (by kernel_rfl)
    (of_decide_eq_true (by kernel_rfl)) (by unfold Func.isWrapper; first | (rw [if_pos (by decide +kernel)]; kernel_rfl) | (rw [if_neg (by decide +kernel)]; exact ⟨rfl, rfl⟩))
    (fun os started H enc _ => lifted os started H enc)
theorem proved : Rows.CutMeetingSaid := over
end Go.Proofs.Ytddjccjbbajgaaa.cutMeeting

namespace Go.Proofs.Ytddjccjbbajgaaa
/-- The row, under a short name, for the claim. -/
theorem cutMeeting_holds : Rows.CutMeetingSaid := cutMeeting.proved
#print axioms cutMeeting_holds
end Go.Proofs.Ytddjccjbbajgaaa
